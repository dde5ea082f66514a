/- Words on memory: each does what its operation does. -/
import Derived.Test.YtdbdmlfnggbdiaaZabOps
namespace Go.Ab

section
variable {P : Program} {o : Oper} {ev : Operand → Value} {k : Post} {H : Heap}

/-- Is the type a struct or an array? -/
def isAggT (P : Program) (t : TypeId) : Option Bool :=
  match P.underlying t with
  | some (.struct _) | some (.array _ _) => some true
  | some _ => some false
  | none => none

theorem isAgg_run {P : Program} {w : World} {t : TypeId} {b : Bool} (h : isAggT P t = some b) : (isAgg t).run P w = .ok b w := by
  unfold isAggT at h
  split at h
  · rename_i hu; cases h; simp [isAgg, run_underlying hu]
  · rename_i hu; cases h; simp [isAgg, run_underlying hu]
  · rename_i d h1 h2 hu
    cases h
    simp only [isAgg, Sem.run_bind, run_underlying hu, Result.andThen_ok]
    rfl
  · cases h

theorem sizeOf_run {P : Program} {w : World} {t : TypeId} {i : TypeInfo} (h : P.info? t = some i) : (sizeOf t).run P w = .ok i.size w := by
  simp [sizeOf, typeInfo, h]

theorem W.get_sound {t : TypeId} {p : Operand} (ho : o.op = .load t p) (ht : isAggT P t = some false) (h : W.get (ev p) H k) : ∃ v H', k v H' ∧ OpStep P o ev H v H' := by
  unfold W.get at h
  split at h
  · rename_i a e
    split at h
    · rename_i v hv
      refine ⟨_, _, h, .pure fun φ w cev s hx => ?_⟩
      have hx' := hx p (by rw [ho]; simp [Op.operands])
      rw [e] at hx'
      obtain ⟨a', hx', har⟩ := hx'.of_ptr
      obtain ⟨v', h1, h2⟩ := s.get har hv
      exact ⟨v', by simp [execOp, ho, hx', Instr.loadAt, Instr.sureAddr, loadVar, isAgg_run ht, h1], h2⟩
    · exact h.elim
  · exact h.elim

theorem W.getN_sound {t : TypeId} {p : Operand} {i : TypeInfo} (ho : o.op = .load t p) (ht : isAggT P t = some true) (hi : P.info? t = some i) (h : W.getN i.size (ev p) H k) :
    ∃ v H', k v H' ∧ OpStep P o ev H v H' := by
  unfold W.getN at h
  split at h
  · rename_i a e
    split at h
    · rename_i vs hv
      refine ⟨_, _, h, .pure fun φ w cev s hx => ?_⟩
      have hx' := hx p (by rw [ho]; simp [Op.operands])
      rw [e] at hx'
      obtain ⟨a', hx', har⟩ := hx'.of_ptr
      obtain ⟨vs', h1, h2, h3, h4⟩ := s.getN har hv
      have hl := run_loadCells_list (P := P) w a' vs' h3
      rw [h1] at hl
      refine ⟨.agg vs'.toArray, by simp [execOp, ho, hx', Instr.loadAt, Instr.sureAddr, loadVar, isAgg_run ht, sizeOf_run hi, hl], .agg _ _ (by simp; omega) fun j hj hj' => ?_⟩
      refine h4 j _ _ ?_ ?_
      · simp
      · simp
    · exact h.elim
  · exact h.elim

/-- A value that one cell holds stands for such a one. -/
theorem VR.cell {φ H v v'} (h : VR φ H v v') (hc : isCell v = true) : v'.cells = #[v'] ∧ v'.oneCell' = true ∧ v.cells = #[v] := by
  cases h <;> simp [isCell, Value.cells, Value.oneCell'] at hc ⊢

theorem Sim.setN {φ H w a a' vs} {vs' : List Value} {H' : Heap} (s : Sim φ H w) (h : AR φ H a a') (hs : H.setN a vs = some H') (hl : vs.length = vs'.length)
    (hv : ∀ (i : Nat) (v v' : Value), vs[i]? = some v → vs'[i]? = some v' → VR φ H v v') (P : Program) :
    ∃ w', (storeCells a' vs').run P w = .ok () w' ∧ Ext φ H w φ H' w' := by
  unfold Heap.setN at hs
  split at hs
  · rename_i kb hk
    split at hs
    · rename_i hc
      simp only [Bool.and_eq_true, Bool.not_eq_eq_eq_not, Bool.not_true, decide_eq_true_eq] at hc
      obtain ⟨⟨hcell, hro⟩, hle⟩ := hc
      cases hs
      obtain ⟨r, hr⟩ := h.map kb hk
      obtain ⟨arr, fz, h1, h2, h3, h3', h4⟩ := s.cells _ kb _ r hk hr
      have ha' : a' = ⟨a'.block, a.off, none⟩ := by
        cases a' with | mk b o sp => have := h.off; have := h.spot'; simp_all
      have hcell' : ∀ v ∈ vs', v.oneCell' = true := by
        intro v' hv'
        obtain ⟨i, hi, rfl⟩ := List.mem_iff_getElem.1 hv'
        have hi2 : i < vs.length := by omega
        have := hv i vs[i] vs'[i] (by simp) (by simp)
        exact (this.cell (List.all_eq_true.1 hcell _ (List.getElem_mem hi2))).2.1
      rw [h2 hro] at h1
      have hst := run_storeCells_at P a'.block a.off kb.ty vs' 0 arr w h1 (by simp; omega) hcell'
      rw [← ha', Nat.add_zero] at hst
      refine ⟨_, hst, s.write hk hr hro _ _ (by simp; omega) (by simp; omega) ?_⟩
      intro i v hi
      by_cases c1 : i < a.off
      · rw [List.append_assoc, List.getElem?_append_left (by simp; omega), List.getElem?_take, if_pos c1] at hi
        obtain ⟨v', h5, h6⟩ := h4 i v hi
        refine ⟨v', ?_, h6⟩
        have : i < arr.size := (Array.getElem?_eq_some_iff.1 h5).1
        simp only [List.append_assoc, List.getElem?_toArray]
        rw [List.getElem?_append_left (by simp; omega), List.getElem?_take, if_pos c1]
        simpa using h5
      · by_cases c2 : i < a.off + vs.length
        · rw [List.append_assoc, List.getElem?_append_right (by simp; omega)] at hi
          have e1 : (List.take a.off kb.cells).length = a.off := by simp; omega
          rw [e1, List.getElem?_append_left (by omega)] at hi
          refine ⟨vs'[i - a.off]'(by omega), ?_, hv _ _ _ hi (by simp)⟩
          simp only [List.append_assoc, List.getElem?_toArray]
          rw [List.getElem?_append_right (by simp; omega)]
          have e2 : (List.take a.off arr.toList).length = a.off := by simp; omega
          rw [e2, List.getElem?_append_left (by omega)]
          simp
        · rw [List.append_assoc, List.getElem?_append_right (by simp; omega)] at hi
          have e1 : (List.take a.off kb.cells).length = a.off := by simp; omega
          rw [e1, List.getElem?_append_right (by omega), List.getElem?_drop] at hi
          have e3 : a.off + vs.length + (i - a.off - vs.length) = i := by omega
          rw [e3] at hi
          obtain ⟨v', h5, h6⟩ := h4 i v hi
          refine ⟨v', ?_, h6⟩
          simp only [List.append_assoc, List.getElem?_toArray]
          rw [List.getElem?_append_right (by simp; omega)]
          have e2 : (List.take a.off arr.toList).length = a.off := by simp; omega
          rw [e2, List.getElem?_append_right (by omega), List.getElem?_drop]
          have e4 : a.off + vs'.length + (i - a.off - vs'.length) = i := by omega
          rw [e4]
          simpa using h5
    · cases hs
  · cases hs

theorem set_eq_setN {H : Heap} {a : Addr} {v : Value} {H' : Heap} (h : H.set a v = some H') : H.setN a [v] = some H' ∧ isCell v = true := by
  unfold Heap.set at h
  split at h
  · rename_i kb hk
    split at h
    · rename_i hc
      simp only [Bool.and_eq_true, Bool.not_eq_eq_eq_not, Bool.not_true, decide_eq_true_eq] at hc
      cases h
      refine ⟨?_, hc.1.1⟩
      unfold Heap.setN
      rw [hk]
      simp only [List.all_cons, hc.1.1, List.all_nil, Bool.and_true, hc.1.2, Bool.not_false, Bool.true_and, List.length_cons, List.length_nil, Nat.zero_add]
      rw [if_pos (by simp; omega)]
      congr 5
      rw [List.set_eq_take_append_cons_drop, if_pos hc.2]
      simp
    · cases h
  · cases h

theorem OpStep.skip {v : Value} {H' : Heap} (hv : v = undef)
    (h : ∀ (φ : Phi) (w : World) (cev : Operand → Value), Sim φ H w → (∀ x, x ∈ o.op.operands.toList → VR φ H (ev x) (cev x)) →
      ∃ w' φ', (execOp cev o).run P w = .ok .skip w' ∧ Ext φ H w φ' H' w') : OpStep P o ev H v H' := by
  intro φ w a next Q s hx hn
  obtain ⟨w', φ', hr, x⟩ := h φ w a.eval s hx
  unfold Oper.wp
  rw [hr, Oper.upon_skip]
  exact hn φ' w' undef x (by rw [hv]; exact .tuple _ _ rfl (fun i h => by simp at h))

theorem W.put_sound {t : TypeId} {p x : Operand} {i : TypeInfo} (ho : o.op = .store t p x) (hi : P.info? t = some i) (h1 : i.size = 1) (h : W.put (ev p) (ev x) H k) :
    ∃ v H', k v H' ∧ OpStep P o ev H v H' := by
  unfold W.put at h
  split at h
  · rename_i a e
    split at h
    · rename_i H' hs
      refine ⟨_, _, h, .skip rfl fun φ w cev s hx => ?_⟩
      obtain ⟨hs, hc⟩ := set_eq_setN hs
      have hp := hx p (by rw [ho]; simp [Op.operands])
      have hv := hx x (by rw [ho]; simp [Op.operands])
      rw [e] at hp
      obtain ⟨a', hp, har⟩ := hp.of_ptr
      obtain ⟨w', h2, h3⟩ := s.setN har hs (vs' := [cev x]) rfl (fun j u u' hu hu' => by
        cases j with
        | zero => simp at hu hu'; subst hu; subst hu'; exact hv
        | succ j => simp at hu) P
      refine ⟨w', φ, ?_, h3⟩
      have hcc := (hv.cell hc).1
      simp only [execOp, ho, Instr.storeAt, hp, Instr.sureAddr, Sem.run_bind, Sem.run_pure, Result.andThen_ok, storeVar, sizeOf_run hi, hcc, h1]
      simp only [List.size_toArray, List.length_cons, List.length_nil, Nat.zero_add, ne_eq, not_true_eq_false, if_false, Result.andThen_ok, h2]
    · exact h.elim
  · exact h.elim

theorem W.putN_sound {t : TypeId} {p x : Operand} {i : TypeInfo} (ho : o.op = .store t p x) (hi : P.info? t = some i) (h : W.putN i.size (ev p) (ev x) H k) :
    ∃ v H', k v H' ∧ OpStep P o ev H v H' := by
  unfold W.putN at h
  split at h
  · rename_i a vs e1 e2
    split at h
    · rename_i hsz
      split at h
      · rename_i H' hs
        refine ⟨_, _, h, .skip rfl fun φ w cev s hx => ?_⟩
        have hp := hx p (by rw [ho]; simp [Op.operands])
        have hv := hx x (by rw [ho]; simp [Op.operands])
        rw [e1] at hp; rw [e2] at hv
        obtain ⟨a', hp, har⟩ := hp.of_ptr
        obtain ⟨vs', hv, hl, hr⟩ := hv.of_agg
        obtain ⟨w', h2, h3⟩ := s.setN har hs (vs' := vs'.toList) (by simpa using hl) (fun j u u' hu hu' => by
          simp only [Array.getElem?_toList] at hu hu'
          obtain ⟨g1, rfl⟩ := Array.getElem?_eq_some_iff.1 hu
          obtain ⟨g2, rfl⟩ := Array.getElem?_eq_some_iff.1 hu'
          exact hr j g1 g2) P
        refine ⟨w', φ, ?_, h3⟩
        simp only [execOp, ho, Instr.storeAt, hp, hv, Instr.sureAddr, Sem.run_bind, Sem.run_pure, Result.andThen_ok, storeVar, sizeOf_run hi, Value.cells]
        simp only [← hl, hsz, ne_eq, not_true_eq_false, if_false, Result.andThen_ok, h2]
      · exact h.elim
    · exact h.elim
  · exact h.elim

theorem run_newRow (P : Program) (w : World) (ty : TypeId) (arr : Array Value) :
    (newRow ty arr).run P w = .ok ⟨w.heap.size, 0, none⟩ { w with heap := w.heap.push (.cells arr ty) } := rfl

/-- The address of a new block stands for that of the world's. -/
theorem new_ptr {φ' : Phi} {H : Heap} {w : World} {cells : List Value} {ty : TypeId} {esz r : Nat} (h : φ' H.next = some (w.heap.size, r)) :
    AR φ' (H.alloc cells ty esz) ⟨H.next, 0, none⟩ ⟨w.heap.size, 0, none⟩ :=
  ⟨rfl, rfl, rfl, by simp [Heap.alloc], fun _ _ => ⟨r, h⟩⟩

theorem constCell_VR {φ H v} (h : match v with | .bool _ | .int _ _ | .string _ | .pointer none | .nilFunc | .nilIface => true | .slice none 0 0 => true | _ => false) : VR φ H v v := by
  split at h <;> first | constructor | exact absurd h (by simp)

/-- A value that is told in full: it stands for itself. -/
def plainV : Value → Bool
  | .bool _ | .int _ _ | .string _ | .pointer none | .nilFunc | .nilIface => true
  | .slice none 0 0 => true
  | _ => false

theorem plainV_VR {φ H v} (h : plainV v = true) : VR φ H v v := by
  unfold plainV at h
  split at h <;> first | constructor | exact absurd h (by simp)

theorem W.new_sound {t : TypeId} {i : TypeInfo} {z : Value} (ho : o.op = .alloc t) (hi : P.info? t = some i) (hz : i.zero = some z) (hp : z.cells.toList.all plainV = true)
    (h : W.new z.cells.toList t H k) : ∃ v H', k v H' ∧ OpStep P o ev H v H' := by
  unfold W.new at h
  refine ⟨_, _, h, .value fun φ w cev s hx => ?_⟩
  obtain ⟨φ', h1, h2⟩ := s.alloc z.cells.toList z.cells t z.cells.toList.length (by simp) (fun j v hj => ⟨v, by simpa using hj, plainV_VR (List.all_eq_true.1 hp _ (List.mem_of_getElem? hj))⟩)
  refine ⟨.pointer (some ⟨w.heap.size, 0, none⟩), _, φ', ?_, h2, .ptr (new_ptr h1)⟩
  simp [execOp, ho, Instr.alloc, zeroValue, typeInfo, hi, hz, newVar, run_newRow]

theorem W.box_sound {t : TypeId} {x : Operand} (ho : o.op = .box t x) (h : W.box (ev x) t H k) : ∃ v H', k v H' ∧ OpStep P o ev H v H' := by
  unfold W.box at h
  split at h
  · rename_i vs e
    refine ⟨_, _, h, .value fun φ w cev s hx => ?_⟩
    have hv := hx x (by rw [ho]; simp [Op.operands])
    rw [e] at hv
    obtain ⟨vs', hv, hl, hr⟩ := hv.of_agg
    obtain ⟨φ', h1, h2⟩ := s.alloc vs.toList vs' t vs.size (by simp; omega) (fun j v hj => by
      simp only [Array.getElem?_toList] at hj
      obtain ⟨g1, rfl⟩ := Array.getElem?_eq_some_iff.1 hj
      exact ⟨vs'[j]'(by omega), by simp, hr j g1 (by omega)⟩)
    refine ⟨.pointer (some ⟨w.heap.size, 0, none⟩), _, φ', ?_, h2, .ptr (new_ptr h1)⟩
    simp [execOp, ho, hv, Instr.box, newVar, run_newRow, Value.cells]
  · obtain ⟨hc, h⟩ := h
    refine ⟨_, _, h, .value fun φ w cev s hx => ?_⟩
    have hv := hx x (by rw [ho]; simp [Op.operands])
    obtain ⟨φ', h1, h2⟩ := s.alloc [ev x] #[cev x] t 1 (by simp) (fun j v hj => by
      cases j with
      | zero => simp at hj; subst hj; exact ⟨_, rfl, hv⟩
      | succ j => simp at hj)
    refine ⟨.pointer (some ⟨w.heap.size, 0, none⟩), _, φ', ?_, h2, .ptr (new_ptr h1)⟩
    simp [execOp, ho, Instr.box, newVar, (hv.cell hc).1, run_newRow]

theorem W.fieldAddr_sound {t : TypeId} {p : Operand} {j : Nat} {fs : Array Field} {f : Field} {i : TypeInfo} (ho : o.op = .fieldAddr t p j) (hu : P.underlying t = some (.struct fs))
    (hf : fs[j]? = some f) (hi : P.info? f.type = some i) (hz : i.size ≠ 0) (h : W.fieldAddr f.offset (ev p) H k) : ∃ v H', k v H' ∧ OpStep P o ev H v H' := by
  unfold W.fieldAddr at h
  split at h
  · rename_i a e
    refine ⟨_, _, h, .pure fun φ w cev s hx => ?_⟩
    have hp := hx p (by rw [ho]; simp [Op.operands])
    rw [e] at hp
    obtain ⟨a', hp, har⟩ := hp.of_ptr
    exact ⟨_, by simp [execOp, ho, hp, Instr.fieldAt, run_underlying hu, hf, Instr.sureAddr, fieldPlace, sizeOf_run hi, hz], .ptr (har.add _)⟩
  · exact h.elim

theorem W.indexAddr_sound {t e : TypeId} {x y : Operand} {i : TypeInfo} (ho : o.op = .indexAddr t x y) (hu : P.underlying t = some (.slice e)) (hi : P.info? e = some i)
    (h : W.indexAddr i.size (ev x) (ev y) H k) : ∃ v H', k v H' ∧ OpStep P o ev H v H' := by
  unfold W.indexAddr at h
  split at h
  · rename_i a len c κ n e1 e2
    obtain ⟨g1, g2, h⟩ := h
    refine ⟨_, _, h, .pure fun φ w cev s hx => ?_⟩
    have hx' := hx x (by rw [ho]; simp [Op.operands])
    have hy' := hx y (by rw [ho]; simp [Op.operands])
    rw [e1] at hx'; rw [e2] at hy'
    obtain ⟨a', c', hx', har, _⟩ := hx'.of_slice
    have he : P.elem t = e := by simp [Program.elem, hu]
    refine ⟨.pointer (some (a'.add (n.toNat * i.size))), ?_, .ptr (har.add _)⟩
    simp only [execOp, ho, hx', hy'.of_int, Sem.run_bind]
    rw [run_indexAt_slice w t a' len c' κ n (by rw [he]; exact hu), if_pos ⟨g1, g2⟩, he, sizeOf_run hi]
    simp
  · exact h.elim

theorem W.indexArr_sound {t e : TypeId} {x y : Operand} {i : TypeInfo} {len : Nat} (ho : o.op = .indexAddr t x y) (hu : P.underlying t = some (.array len e)) (hi : P.info? e = some i)
    (h : W.indexArr len i.size (ev x) (ev y) H k) : ∃ v H', k v H' ∧ OpStep P o ev H v H' := by
  unfold W.indexArr at h
  split at h
  · rename_i a κ n e1 e2
    obtain ⟨g1, g2, h⟩ := h
    refine ⟨_, _, h, .pure fun φ w cev s hx => ?_⟩
    have hx' := hx x (by rw [ho]; simp [Op.operands])
    have hy' := hx y (by rw [ho]; simp [Op.operands])
    rw [e1] at hx'; rw [e2] at hy'
    obtain ⟨a', hx', har⟩ := hx'.of_ptr
    have he : P.elem t = e := by simp [Program.elem, hu]
    have hl : P.arrayLen t = len := by simp [Program.arrayLen, hu]
    refine ⟨.pointer (some (a'.add (n.toNat * i.size))), ?_, .ptr (har.add _)⟩
    simp only [execOp, ho, hx', hy'.of_int, Sem.run_bind]
    rw [run_indexAt_array w t a' κ n (by rw [he, hl]; exact hu), if_pos ⟨g1, by rw [hl]; exact g2⟩, he, sizeOf_run hi]
    simp
  · exact h.elim

theorem W.indexStr_sound {t : TypeId} {x y : Operand} (ho : o.op = .index t x y) (hu : P.underlying t = some .string)
    (h : W.indexStr (ev x) (ev y) H k) : ∃ v H', k v H' ∧ OpStep P o ev H v H' := by
  unfold W.indexStr at h
  split at h
  · rename_i s κ n e1 e2
    obtain ⟨g1, h⟩ := h
    split at h
    · rename_i b hb
      refine ⟨_, _, h, .pure fun φ w cev s hx => ?_⟩
      have hx' := hx x (by rw [ho]; simp [Op.operands])
      have hy' := hx y (by rw [ho]; simp [Op.operands])
      rw [e1] at hx'; rw [e2] at hy'
      refine ⟨.int .u8 b.toNat, ?_, .int ..⟩
      simp [execOp, ho, hx'.of_string, hy'.of_int, Instr.index, run_underlying hu, asIntOf, g1, hb]
    · exact h.elim
  · exact h.elim

theorem W.field_sound {t : TypeId} {x : Operand} {j : Nat} {fs : Array Field} {f : Field} (ho : o.op = .field t x j) (hu : P.underlying t = some (.struct fs))
    (hf : fs[j]? = some f) (ht : isAggT P f.type = some false) (h : W.field f.offset (ev x) H k) : ∃ v H', k v H' ∧ OpStep P o ev H v H' := by
  unfold W.field at h
  split at h
  · rename_i vs e
    split at h
    · rename_i v hv
      refine ⟨_, _, h, .pure fun φ w cev s hx => ?_⟩
      have hx' := hx x (by rw [ho]; simp [Op.operands])
      rw [e] at hx'
      obtain ⟨vs', hx', hl, hr⟩ := hx'.of_agg
      obtain ⟨g1, rfl⟩ := Array.getElem?_eq_some_iff.1 hv
      refine ⟨vs'[f.offset]'(by omega), ?_, hr _ g1 (by omega)⟩
      have g2 : f.offset < vs'.size := by omega
      simp [execOp, ho, hx', Instr.field, run_underlying hu, hf, asAgg, part, isAgg_run ht, g2]
    · exact h.elim
  · exact h.elim

theorem W.fieldN_sound {t : TypeId} {x : Operand} {j : Nat} {fs : Array Field} {f : Field} {i : TypeInfo} (ho : o.op = .field t x j) (hu : P.underlying t = some (.struct fs))
    (hf : fs[j]? = some f) (ht : isAggT P f.type = some true) (hi : P.info? f.type = some i) (h : W.fieldN f.offset i.size (ev x) H k) : ∃ v H', k v H' ∧ OpStep P o ev H v H' := by
  unfold W.fieldN at h
  split at h
  · rename_i vs e
    refine ⟨_, _, h, .pure fun φ w cev s hx => ?_⟩
    have hx' := hx x (by rw [ho]; simp [Op.operands])
    rw [e] at hx'
    obtain ⟨vs', hx', hl, hr⟩ := hx'.of_agg
    refine ⟨.agg (vs'.extract f.offset (f.offset + i.size)), ?_, .agg _ _ (by simp [hl]) fun j h1 h2 => ?_⟩
    · simp [execOp, ho, hx', Instr.field, run_underlying hu, hf, asAgg, part, isAgg_run ht, sizeOf_run hi]
    · simp only [Array.getElem_extract]
      exact hr _ _ _
  · exact h.elim

theorem W.extract_sound {x : Operand} {j : Nat} (ho : o.op = .extract x j) (h : W.extract j (ev x) H k) : ∃ v H', k v H' ∧ OpStep P o ev H v H' := by
  unfold W.extract at h
  split at h
  · rename_i vs e
    split at h
    · rename_i v hv
      refine ⟨_, _, h, .pure fun φ w cev s hx => ?_⟩
      have hx' := hx x (by rw [ho]; simp [Op.operands])
      rw [e] at hx'
      obtain ⟨vs', hx', hl, hr⟩ := hx'.of_tuple
      obtain ⟨g1, rfl⟩ := Array.getElem?_eq_some_iff.1 hv
      refine ⟨vs'[j]'(by omega), ?_, hr _ g1 (by omega)⟩
      have g2 : j < vs'.size := by omega
      simp [execOp, ho, hx', Instr.extract, g2]
    · exact h.elim
  · exact h.elim

theorem W.nilCheck_sound {x : Operand} (ho : o.op = .nilCheck x) (h : W.nilCheck (ev x) H k) : ∃ v H', k v H' ∧ OpStep P o ev H v H' := by
  unfold W.nilCheck at h
  split at h
  · rename_i a e
    refine ⟨_, _, h, .pure fun φ w cev s hx => ?_⟩
    have hx' := hx x (by rw [ho]; simp [Op.operands])
    rw [e] at hx'
    obtain ⟨a', hx', har⟩ := hx'.of_ptr
    exact ⟨.pointer (some a'), by simp [execOp, ho, hx'], .ptr har⟩
  · exact h.elim

end

end Go.Ab
