/- Words on slices: len, cap, make, slicing, append, copy; composites; functions. -/
import Derived.Test.YtdbdmlfnggbdiaaZabOps2
namespace Go.Ab

section
variable {P : Program} {o : Oper} {ev : Operand → Value} {k : Post} {H : Heap}

theorem VR.of_slice' {φ : Phi} {a : Option Addr} {n e : Nat} {v : Value} (h : VR φ H (.slice a n e) v) : ∃ a' c, v = .slice a' n c ∧ CR e c := by
  cases a with
  | none =>
    rcases h.of_snil with ⟨h1, h2, h3⟩ | ⟨⟨a, c, h1⟩, h2, h3⟩
    · exact ⟨none, 0, by rw [h1, h2], by subst h3; simp [CR]⟩
    · exact ⟨some a, c, by rw [h1, h2], by subst h3; simp [CR]⟩
  | some a => obtain ⟨a', c', h1, _, h2⟩ := h.of_slice; exact ⟨_, _, h1, h2⟩

theorem W.len_sound {t e : TypeId} {x : Operand} (ho : o.op = .call { callee := .builtin .len, args := #[x], argTypes := #[t] })
    (hu : P.underlying t = some (.slice e)) (h : W.len (ev x) H k) : ∃ v H', k v H' ∧ OpStep P o ev H v H' := by
  unfold W.len at h
  split at h
  · rename_i a n c e
    refine ⟨_, _, h, .pure fun φ w cev s hx => ?_⟩
    have hx' := hx x (by rw [ho]; simp [Op.operands, Call.operands])
    rw [e] at hx'
    obtain ⟨a', c', hx', _⟩ := hx'.of_slice'
    exact ⟨.int .i64 n, by simp [execOp, ho, resolve, invoke, builtin, hx', Builtin.len_, run_underlying hu, goInt], .int ..⟩
  · exact h.elim

theorem W.lenStr_sound {t : TypeId} {x : Operand} (ho : o.op = .call { callee := .builtin .len, args := #[x], argTypes := #[t] })
    (hu : P.underlying t = some .string) (h : W.lenStr (ev x) H k) : ∃ v H', k v H' ∧ OpStep P o ev H v H' := by
  unfold W.lenStr at h
  split at h
  · rename_i s e
    refine ⟨_, _, h, .pure fun φ w cev s hx => ?_⟩
    have hx' := hx x (by rw [ho]; simp [Op.operands, Call.operands])
    rw [e] at hx'
    exact ⟨_, by simp [execOp, ho, resolve, invoke, builtin, hx'.of_string, Builtin.len_, run_underlying hu, goInt], .int ..⟩
  · exact h.elim

theorem W.cap_sound {t e : TypeId} {x : Operand} (ho : o.op = .call { callee := .builtin .cap, args := #[x], argTypes := #[t] })
    (hu : P.underlying t = some (.slice e)) (h : W.cap (ev x) H k) : ∃ v H', k v H' ∧ OpStep P o ev H v H' := by
  unfold W.cap at h
  split at h
  · rename_i a n c e
    obtain ⟨h0, h⟩ := h
    refine ⟨_, _, h, .pure fun φ w cev s hx => ?_⟩
    have hx' := hx x (by rw [ho]; simp [Op.operands, Call.operands])
    rw [e] at hx'
    obtain ⟨a', c', hx', hc⟩ := hx'.of_slice'
    simp only [CR, h0, if_true] at hc
    subst hc
    exact ⟨_, by simp [execOp, ho, resolve, invoke, builtin, hx', Builtin.cap_, run_underlying hu, goInt], .int ..⟩
  · exact h.elim

/-! ### append -/

/-- The cells that an append takes: how many elements, and what they hold. -/
def srcCells (sz : Nat) (H : Heap) (y : Value) : Option (Nat × List Value) :=
  match y with
  | .slice none _ _ => some (0, [])
  | .slice (some b) m _ => if m = 0 then some (0, []) else (H.getN b (m * sz)).map fun cs => (m, cs)
  | _ => none

/-- What is appended to: its cells. -/
def oldCells (sz : Nat) (H : Heap) (base : Option Addr) (n : Nat) : Option (List Value) :=
  match base with
  | none => some []
  | some a => H.getN a (n * sz)

def appendTo (sz : Nat) (ty : TypeId) (x : Value) (m : Nat) (new : List Value) (k : Post) (H : Heap) : Prop :=
  match x with
  | .slice base n e =>
    if n + m ≤ e / 2 then
      if m = 0 then k (.slice base n e) H else
      match base with
      | none => False
      | some a => match H.setN (a.add (n * sz)) new with | some H' => k (.slice (some a) (n + m) e) H' | none => False
    else
      n + m ≤ 16777216 ∧
      match oldCells sz H base n with
      | none => False
      | some old =>
        if e % 2 = 0 then k (.slice (some ⟨H.next, 0, none⟩) (n + m) (2 * (n + m) + 1)) (H.alloc (old ++ new) ty sz)
        else match base with
          | none => False
          | some a => a.off = 0 ∧ new.all isCell = true ∧ (match H.blk a.block with | some kb => kb.ro = false ∧ kb.ty = ty ∧ kb.esz = sz | none => False) ∧
            k (.slice (some ⟨H.next, 0, none⟩) (n + m) (2 * (n + m) + 1)) ((H.setBlk a.block none).alloc (old ++ new) ty sz)
  | _ => False

def W.append (sz : Nat) (ty : TypeId) (x y : Value) (H : Heap) (k : Post) : Prop :=
  match srcCells sz H y with
  | some (m, new) => appendTo sz ty x m new k H
  | none => False

theorem growBy_le (newLen : Nat) : ∀ (r c : Nat), c < newLen → Builtin.growBy newLen r c ≤ 2 * newLen + 1024
  | 0, c, h => by simp [Builtin.growBy]; omega
  | r + 1, c, h => by
    unfold Builtin.growBy
    split
    · omega
    · by_cases h2 : c + (c + 768) / 4 < newLen
      · exact growBy_le newLen r _ h2
      · cases r with
        | zero => simp [Builtin.growBy]; omega
        | succ r => unfold Builtin.growBy; rw [if_pos (by omega)]; omega

theorem nextslicecap_le {newLen oldCap : Nat} (h : oldCap < newLen) : Builtin.nextslicecap newLen oldCap ≤ 2 * newLen + 1024 := by
  unfold Builtin.nextslicecap
  split
  · omega
  · split
    · omega
    · exact growBy_le newLen 4 oldCap h

theorem append_in {t t2 ty e0 e2 : TypeId} {i : TypeInfo} {w : World} {base : Option Addr} {n c m : Nat} {yv : Value} {new : List Value}
    (hu : P.underlying t = some (.slice e0)) (hi : P.info? e0 = some i) (hu2 : P.underlying t2 = some (.slice e2))
    (hlen : (Builtin.lenOf yv).run P w = .ok m w) (hnew : (Builtin.firstCells i.size m yv).run P w = .ok new.toArray w) (hle : n + m ≤ c) :
    (Builtin.append_ #[t, t2] ty #[.slice base n c, yv]).run P w =
      match base with
      | some a => ((storeCells (a.add (n * i.size)) new).run P w).andThen fun _ w' => .ok (.slice base (n + m) c) w'
      | none => .ok (.slice base (n + m) c) w := by
  cases base <;> simp [Builtin.append_, run_underlying hu, run_underlying hu2, sizeOf_run hi, hlen, hnew, hle]

theorem append_new {t t2 ty e0 e2 : TypeId} {i : TypeInfo} {z : Value} {w : World} {base : Option Addr} {n c m : Nat} {yv : Value} {old new : List Value}
    (hu : P.underlying t = some (.slice e0)) (hi : P.info? e0 = some i) (hz : i.zero = some z) (hzs : z.cells.size = i.size) (hb : i.bytes ≤ 1024) (hu2 : P.underlying t2 = some (.slice e2))
    (hlen : (Builtin.lenOf yv).run P w = .ok m w) (hnew : (Builtin.firstCells i.size m yv).run P w.drew = .ok new.toArray w.drew)
    (hold : (Builtin.firstCells i.size n (.slice base n c)).run P w.drew = .ok old.toArray w.drew)
    (hle : ¬ n + m ≤ c) (hs : n + m ≤ 16777216) :
    ∃ (c' : Nat) (rest : Array Value), n + m ≤ c' ∧ rest.size = (c' - (n + m)) * i.size ∧
      (Builtin.append_ #[t, t2] ty #[.slice base n c, yv]).run P w =
        .ok (.slice (some ⟨w.heap.size, 0, none⟩) (n + m) c') (w.drew.alloc (.cells (old.toArray ++ (new.toArray ++ rest)) e0)) := by
  have hcap : ¬ Builtin.nextslicecap (n + m) c * i.bytes > 2 ^ 48 := by
    have h1 := nextslicecap_le (newLen := n + m) (oldCap := c) (by omega)
    have h2 : Builtin.nextslicecap (n + m) c * i.bytes ≤ (2 * 16777216 + 1024) * 1024 := Nat.mul_le_mul (by omega) hb
    omega
  refine ⟨(Question.appendCap (n + m) c e0).cut (w.tape w.drawn (.appendCap (n + m) c e0)), Builtin.zeroCells z.cells ((Question.appendCap (n + m) c e0).cut (w.tape w.drawn (.appendCap (n + m) c e0)) - (n + m)), ?_, ?_, ?_⟩
  · simp [Question.cut]
  · simp [Builtin.zeroCells, hzs]
  · have hbig : ¬ ((n : Int) + m > IntKind.i64.max ∧ i.bytes = 0) := by simp; omega
    simp [Builtin.append_, run_underlying hu, run_underlying hu2, sizeOf_run hi, hlen, hle, typeInfo, hi, choose, Sem.run, Question.forced, askRoom]
    rw [if_neg (by simp at hbig ⊢; omega), if_neg (by omega)]
    simp [hold, hnew, zeroValue, typeInfo, hi, hz, run_newRow]

theorem Sim.drew {φ : Phi} {w : World} (s : Sim φ H w) : Sim φ H w.drew := s.drawn _

theorem src_run {φ : Phi} {w : World} {sz m : Nat} {y yv : Value} {new : List Value} (h : srcCells sz H y = some (m, new)) (s : Sim φ H w) (r : VR φ H y yv) :
    ∃ new' : List Value, new.length = new'.length ∧ new.length = m * sz ∧ (∀ (i : Nat) (v v' : Value), new[i]? = some v → new'[i]? = some v' → VR φ H v v') ∧
      (∀ w', (Builtin.lenOf yv).run P w' = .ok m w') ∧ (Builtin.firstCells sz m yv).run P w = .ok new'.toArray w := by
  unfold srcCells at h
  split at h
  · cases h
    rcases r.of_snil with ⟨rfl, -, -⟩ | ⟨⟨a, c, rfl⟩, -, -⟩
    · exact ⟨[], rfl, by simp, fun i v v' h => by simp at h, fun _ => rfl, rfl⟩
    · refine ⟨[], rfl, by simp, fun i v v' h => by simp at h, fun _ => rfl, ?_⟩
      simp [Builtin.firstCells, loadCells, loadCellsFrom]
  · rename_i b n c
    split at h
    · rename_i h0
      cases h
      subst h0
      obtain ⟨b', c', rfl, _, _⟩ := r.of_slice
      exact ⟨[], rfl, by simp, fun i v v' h => by simp at h, fun _ => rfl, by simp [Builtin.firstCells, loadCells, loadCellsFrom]⟩
    simp only [Option.map_eq_some_iff, Prod.mk.injEq] at h
    obtain ⟨cs, hcs, rfl, rfl⟩ := h
    obtain ⟨b', c', rfl, har, _⟩ := r.of_slice
    obtain ⟨vs', h1, h2, h3, h4⟩ := s.getN har hcs
    have hl := run_loadCells_list (P := P) w b' vs' h3
    rw [h1] at hl
    exact ⟨vs', by omega, h2, h4, fun _ => rfl, by simpa [Builtin.firstCells] using hl⟩
  · cases h

theorem old_run {φ : Phi} {w : World} {sz n e : Nat} {base : Option Addr} {xv : Value} {old : List Value} (h : oldCells sz H base n = some old) (s : Sim φ H w) (r : VR φ H (.slice base n e) xv) :
    ∃ (base' : Option Addr) (c : Nat) (old' : List Value), xv = .slice base' n c ∧ CR e c ∧ old.length = old'.length ∧ old.length = n * sz ∧
      (∀ (i : Nat) (v v' : Value), old[i]? = some v → old'[i]? = some v' → VR φ H v v') ∧
      (Builtin.firstCells sz n (.slice base' n c)).run P w = .ok old'.toArray w := by
  unfold oldCells at h
  split at h
  · cases h
    rcases r.of_snil with ⟨rfl, rfl, rfl⟩ | ⟨⟨a, c, rfl⟩, rfl, rfl⟩
    · exact ⟨none, 0, [], rfl, by simp [CR], rfl, by simp, fun i v v' h => by simp at h, rfl⟩
    · refine ⟨some a, c, [], rfl, by simp [CR], rfl, by simp, fun i v v' h => by simp at h, ?_⟩
      simp [Builtin.firstCells, loadCells, loadCellsFrom]
  · rename_i a
    obtain ⟨a', c', rfl, har, hc⟩ := r.of_slice
    obtain ⟨vs', h1, h2, h3, h4⟩ := s.getN har h
    have hl := run_loadCells_list (P := P) w a' vs' h3
    rw [h1] at hl
    exact ⟨some a', c', vs', rfl, hc, by omega, h2, h4, by simpa [Builtin.firstCells] using hl⟩

theorem getElem?_append_VR {φ : Phi} {xs ys xs' ys' : List Value} (hl : xs.length = xs'.length) (h1 : ∀ (i : Nat) (v v' : Value), xs[i]? = some v → xs'[i]? = some v' → VR φ H v v')
    (hl2 : ys.length = ys'.length) (h2 : ∀ (i : Nat) (v v' : Value), ys[i]? = some v → ys'[i]? = some v' → VR φ H v v') (rest : List Value) :
    ∀ (i : Nat) (v : Value), (xs ++ ys)[i]? = some v → ∃ v', (xs' ++ (ys' ++ rest))[i]? = some v' ∧ VR φ H v v' := by
  intro i v hv
  by_cases hi : i < xs.length
  · rw [List.getElem?_append_left hi] at hv
    refine ⟨xs'[i]'(by omega), ?_, h1 i v _ hv (by simp)⟩
    rw [List.getElem?_append_left (by omega)]
    simp
  · rw [List.getElem?_append_right (by omega)] at hv
    have hi2 : i - xs.length < ys.length := (List.getElem?_eq_some_iff.1 hv).1
    refine ⟨ys'[i - xs.length]'(by omega), ?_, h2 _ v _ hv (by simp)⟩
    rw [List.getElem?_append_right (by omega), ← hl, List.getElem?_append_left (by omega)]
    simp

/-- What the world's append does where there is room. -/
def SrcIn (P : Program) (o : Oper) (ev : Operand → Value) (H : Heap) (t t2 : TypeId) (x y : Operand) (i : TypeInfo) (m : Nat) (new : List Value) : Prop :=
  ∀ (φ : Phi) (w : World) (cev : Operand → Value), Sim φ H w → (∀ x, x ∈ o.op.operands.toList → VR φ H (ev x) (cev x)) → ∃ new' : List Value, new.length = new'.length ∧
    (∀ (i : Nat) (v v' : Value), new[i]? = some v → new'[i]? = some v' → VR φ H v v') ∧ ∀ base n c, cev x = .slice base n c → n + m ≤ c →
      (Builtin.append_ #[t, t2] o.type #[cev x, cev y]).run P w = match base with
        | some a => ((storeCells (a.add (n * i.size)) new').run P w).andThen fun _ w' => .ok (.slice base (n + m) c) w'
        | none => .ok (.slice base (n + m) c) w

/-- What it does where there is none. -/
def SrcNew (P : Program) (o : Oper) (ev : Operand → Value) (H : Heap) (t t2 e0 : TypeId) (x y : Operand) (i : TypeInfo) (m : Nat) (new : List Value) : Prop :=
  ∀ (φ : Phi) (w : World) (cev : Operand → Value), Sim φ H w → (∀ x, x ∈ o.op.operands.toList → VR φ H (ev x) (cev x)) → ∃ new' : List Value, new.length = new'.length ∧
    (∀ (i : Nat) (v v' : Value), new[i]? = some v → new'[i]? = some v' → VR φ H v v') ∧ ∀ base n c (old : List Value), cev x = .slice base n c → ¬ n + m ≤ c → n + m ≤ 16777216 →
      (Builtin.firstCells i.size n (.slice base n c)).run P w.drew = .ok old.toArray w.drew →
      ∃ (c' : Nat) (rest : Array Value), n + m ≤ c' ∧ rest.size = (c' - (n + m)) * i.size ∧
        (Builtin.append_ #[t, t2] o.type #[cev x, cev y]).run P w = .ok (.slice (some ⟨w.heap.size, 0, none⟩) (n + m) c') (w.drew.alloc (.cells (old.toArray ++ (new'.toArray ++ rest)) e0))

theorem appendTo_sound {t t2 e0 : TypeId} {x y : Operand} {i : TypeInfo} {m : Nat} {new : List Value} (ho : o.op = .call { callee := .builtin .append, args := #[x, y], argTypes := #[t, t2] })
    (hlenN : new.length = m * i.size) (hS1 : SrcIn P o ev H t t2 x y i m new) (hS2 : SrcNew P o ev H t t2 e0 x y i m new) (h : appendTo i.size e0 (ev x) m new k H) : ∃ v H', k v H' ∧ OpStep P o ev H v H' := by
  have hex : ∀ (cev : Operand → Value) (w w' : World) (v : Value), (Builtin.append_ #[t, t2] o.type #[cev x, cev y]).run P w = .ok v w' → (execOp cev o).run P w = .ok (.value v) w' := by
    intro cev w w' v hr
    simp [execOp, ho, resolve, invoke, builtin, hr]
  have hX : ∀ {φ : Phi} {cev : Operand → Value}, (∀ x, x ∈ o.op.operands.toList → VR φ H (ev x) (cev x)) → VR φ H (ev x) (cev x) ∧ VR φ H (ev y) (cev y) := fun hx =>
    ⟨hx x (by rw [ho]; simp [Op.operands, Call.operands]), hx y (by rw [ho]; simp [Op.operands, Call.operands])⟩
  unfold appendTo at h
  split at h
  · rename_i base n e ex
    split at h
    · rename_i hle
      split at h
      · rename_i hm
        subst hm
        refine ⟨_, _, h, .value fun φ w cev s hx => ?_⟩
        obtain ⟨rx, ry⟩ := hX hx
        rw [ex] at rx
        obtain ⟨new', l1, r1, hin⟩ := hS1 φ w cev s hx
        have hn0 : new' = [] := List.eq_nil_of_length_eq_zero (by omega)
        subst hn0
        obtain ⟨base', c, exv, hc⟩ := rx.of_slice'
        have hcc : n + 0 ≤ c := by unfold CR at hc; split at hc <;> omega
        refine ⟨cev x, w, φ, hex cev w w _ ?_, .refl s, rx⟩
        rw [hin _ _ _ exv hcc, exv]
        cases base' <;> simp [storeCells]
      · split at h
        · exact h.elim
        · rename_i a
          split at h
          · rename_i H' hset
            refine ⟨_, _, h, .value fun φ w cev s hx => ?_⟩
            obtain ⟨rx, ry⟩ := hX hx
            rw [ex] at rx
            obtain ⟨new', l1, r1, hin⟩ := hS1 φ w cev s hx
            obtain ⟨a', c, exv, har, hc⟩ := rx.of_slice
            have hcc : n + m ≤ c := by unfold CR at hc; split at hc <;> omega
            obtain ⟨w', hst, hext⟩ := s.setN (har.add (n * i.size)) hset l1 r1 P
            refine ⟨.slice (some a') (n + m) c, w', φ, hex cev w w' _ ?_, hext, ?_⟩
            · rw [hin _ _ _ exv hcc]
              simp [hst]
            · rw [exv] at rx
              have rx' := rx.ext hext
              cases rx' with
              | slice h1 h2 h3 => exact .slice h1 h2 h3
          · exact h.elim
    · rename_i hle
      obtain ⟨hs, h⟩ := h
      split at h
      · exact h.elim
      · rename_i old hold
        -- a new block, whatever the world's capacity
        have fresh : ∀ (φ : Phi) (w : World) (cev : Operand → Value), Sim φ H w → (∀ x, x ∈ o.op.operands.toList → VR φ H (ev x) (cev x)) →
            (∀ base' c, cev x = .slice base' n c → ¬ n + m ≤ c) → ∀ (φk : Phi) (Hk : Heap), Ext φ H w φk Hk w →
            ∃ cv w' φ', (execOp cev o).run P w = .ok (.value cv) w' ∧ Ext φ H w φ' (Hk.alloc (old ++ new) e0 i.size) w' ∧
              VR φ' (Hk.alloc (old ++ new) e0 i.size) (.slice (some ⟨Hk.next, 0, none⟩) (n + m) (2 * (n + m) + 1)) cv := by
          intro φ w cev s hx hnot φk Hk xk
          obtain ⟨rx, ry⟩ := hX hx
          rw [ex] at rx
          obtain ⟨new', l1, r1, hnw⟩ := hS2 φ w cev s hx
          obtain ⟨base', c, old', exv, hc, l3, l4, r2, hold'⟩ := old_run (P := P) hold s.drew rx
          obtain ⟨c', rest, hc', hrest, hrun⟩ := hnw base' n c old' exv (hnot base' c exv) hs hold'
          obtain ⟨φ', h1, h2⟩ := xk.sim.drew.alloc (old ++ new) (old'.toArray ++ (new'.toArray ++ rest)) e0 i.size (by simp; omega) (fun j v hj => by
            obtain ⟨v', g1, g2⟩ := getElem?_append_VR l3 (fun i v v' a b => (r2 i v v' a b).ext xk) l1 (fun i v v' a b => (r1 i v v' a b).ext xk) rest.toList j v hj
            exact ⟨v', by rw [← Array.getElem?_toList]; simpa using g1, g2⟩)
          refine ⟨_, _, φ', hex cev w _ _ hrun, ?_, ?_⟩
          · exact (xk.drawn _).trans h2
          · refine .slice (new_ptr h1) ?_ ?_
            · unfold CR; rw [if_neg (by omega)]; omega
            · intro kb hkb _
              simp only [Heap.alloc, if_true] at hkb
              cases hkb
              refine ⟨_, h1, ?_⟩
              have hsz : c' * i.size = (n + m) * i.size + (c' - (n + m)) * i.size := by
                rw [← Nat.add_mul]
                congr 1
                omega
              simp only [Array.size_append, List.size_toArray, hrest, Nat.zero_add, Nat.add_mul] at hsz ⊢
              omega
        split at h
        · rename_i he
          refine ⟨_, _, h, .value fun φ w cev s hx => fresh φ w cev s hx ?_ φ H (.refl s)⟩
          intro base' c exv
          obtain ⟨rx, -⟩ := hX hx
          rw [ex, exv] at rx
          obtain ⟨_, c2, e2', hc⟩ := rx.of_slice'
          cases e2'
          simp only [CR, he, if_true] at hc
          omega
        · rename_i he
          split at h
          · exact h.elim
          · rename_i a
            obtain ⟨ha0, hcell, hkb, h⟩ := h
            split at hkb
            · rename_i kb hk
              obtain ⟨hro, hty, hesz⟩ := hkb
              refine ⟨_, _, h, .value fun φ w cev s hx => ?_⟩
              obtain ⟨rx, ry⟩ := hX hx
              rw [ex] at rx
              have rx0 := rx
              obtain ⟨a', c, exv, har, hc⟩ := rx0.of_slice
              by_cases hfit : n + m ≤ c
              · -- in place
                obtain ⟨new', l1, r1, hin⟩ := hS1 φ w cev s hx
                obtain ⟨base', c1, old', exv', _, l3, l4, r2, _⟩ := old_run (P := P) hold s rx
                rw [exv] at rx0
                cases rx0 with
                | slice har' hc' hroom =>
                  obtain ⟨r, hr, hrle⟩ := hroom kb hk (by omega)
                  obtain ⟨arr, fz, g1, g2, g3, g4, g5⟩ := s.cells _ kb _ r hk hr
                  rw [g2 hro] at g1
                  have hofs : n * i.size + m * i.size ≤ r := by
                    rw [← Nat.add_mul]
                    have := Nat.mul_le_mul_right i.size hfit
                    rw [hesz, ha0] at hrle
                    omega
                  have ha' : a' = ⟨a'.block, 0, none⟩ := by
                    cases a' with | mk b of sp => have := har.off; have := har.spot'; simp_all
                  have hcell' : ∀ v ∈ new', v.oneCell' = true := by
                    intro v' hv'
                    obtain ⟨j, hj, rfl⟩ := List.mem_iff_getElem.1 hv'
                    have hj2 : j < new.length := by omega
                    have := r1 j new[j] new'[j] (by simp) (by simp)
                    exact (this.cell (List.all_eq_true.1 hcell _ (List.getElem_mem hj2))).2.1
                  have hadd : a'.add (n * i.size) = ⟨a'.block, n * i.size, none⟩ := by
                    have hoff : a'.off = 0 := by have := har.off; omega
                    unfold Addr.add
                    split
                    · rename_i h0; rw [h0]; exact ha'
                    · simp [hoff]
                  have hst := run_storeCells_at P a'.block (n * i.size) kb.ty new' 0 arr w g1 (by simp; omega) hcell'
                  rw [← hadd, Nat.add_zero] at hst
                  have hgetold : old = kb.cells.take (n * i.size) ∧ n * i.size ≤ kb.cells.length := by
                    have := hold
                    simp only [oldCells, Heap.getN, hk, Option.bind_some, ha0, Nat.zero_add, List.drop_zero] at this
                    split at this
                    · cases this; exact ⟨rfl, by assumption⟩
                    · cases this
                  obtain ⟨φ', h1, h2⟩ := s.move hk hr hro (old ++ new) (List.take (n * i.size) arr.toList ++ new' ++ List.drop (n * i.size + new'.length) arr.toList).toArray
                    (by simp; omega) (by simp; omega) (fun j v hj => by
                      have hold2 : ∀ (q : Nat) (v v' : Value), old[q]? = some v → (List.take (n * i.size) arr.toList)[q]? = some v' → VR φ H v v' := by
                        intro q v v' hq hq'
                        rw [hgetold.1, List.getElem?_take] at hq
                        rw [List.getElem?_take] at hq'
                        split at hq
                        · rename_i hlt
                          rw [if_pos hlt] at hq'
                          obtain ⟨u, u1, u2⟩ := g5 q v hq
                          have : some u = some v' := by rw [← u1, ← hq']; simp
                          cases this
                          exact u2
                        · cases hq
                      obtain ⟨v', q1, q2⟩ := getElem?_append_VR (xs := old) (xs' := List.take (n * i.size) arr.toList) (by simp; omega) hold2 l1 r1 (List.drop (n * i.size + new'.length) arr.toList) j v hj
                      exact ⟨v', by simpa using q1, q2⟩)
                  rw [hty, hesz] at h2
                  refine ⟨.slice (some a') (n + m) c, _, φ', hex cev w _ _ ?_, h2, ?_⟩
                  · rw [hin _ _ _ exv hfit]
                    simp [hst]
                  · refine .slice ⟨rfl, har.spot', by rw [ha'], by simp [Heap.alloc, Heap.setBlk], fun _ _ => ⟨r, h1⟩⟩ ?_ ?_
                    · unfold CR; rw [if_neg (by omega)]; omega
                    · intro kb' hkb' _
                      simp only [Heap.alloc, Heap.setBlk, if_true] at hkb'
                      cases hkb'
                      refine ⟨r, h1, ?_⟩
                      rw [hesz, ha0] at hrle
                      simpa using hrle
              · -- a new block; the old one's name is given up
                exact fresh φ w cev s hx (fun base' c1 e1 => by rw [exv] at e1; cases e1; exact hfit) _ _ (s.kill hk)
            · exact hkb.elim
  · exact h.elim

theorem W.append_sound {t t2 e0 e2 : TypeId} {x y : Operand} {i : TypeInfo} {z : Value} (ho : o.op = .call { callee := .builtin .append, args := #[x, y], argTypes := #[t, t2] })
    (hu : P.underlying t = some (.slice e0)) (hi : P.info? e0 = some i) (hz : i.zero = some z) (hzs : z.cells.size = i.size) (hb : i.bytes ≤ 1024)
    (hu2 : P.underlying t2 = some (.slice e2)) (h : W.append i.size e0 (ev x) (ev y) H k) : ∃ v H', k v H' ∧ OpStep P o ev H v H' := by
  unfold W.append at h
  split at h
  · rename_i m new hsrc
    have hY : ∀ {φ : Phi} {cev : Operand → Value}, (∀ x, x ∈ o.op.operands.toList → VR φ H (ev x) (cev x)) → VR φ H (ev y) (cev y) := fun hx => hx y (by rw [ho]; simp [Op.operands, Call.operands])
    by_cases hl : new.length = m * i.size
    · refine appendTo_sound ho hl (fun φ w cev s hx => ?_) (fun φ w cev s hx => ?_) h
      · obtain ⟨new', l1, l2, r1, hlen, hnew⟩ := src_run (P := P) hsrc s (hY hx)
        exact ⟨new', l1, r1, fun base n c e hle => by rw [e]; exact append_in hu hi hu2 (hlen w) hnew hle⟩
      · obtain ⟨new', l1, l2, r1, hlen, hnew⟩ := src_run (P := P) hsrc s.drew (hY hx)
        exact ⟨new', l1, r1, fun base n c old e hle hs hold => by rw [e]; exact append_new hu hi hz hzs hb hu2 (hlen w) hnew hold hle hs⟩
    · -- the source's length is as told
      exfalso
      apply hl
      revert hsrc
      unfold srcCells
      split
      · intro h; cases h; simp
      · split
        · intro h; cases h; simp
        · intro h
          simp only [Option.map_eq_some_iff, Prod.mk.injEq] at h
          obtain ⟨cs, hcs, rfl, rfl⟩ := h
          simp only [Heap.getN, Option.bind_eq_some_iff] at hcs
          obtain ⟨kb, _, hcs⟩ := hcs
          split at hcs
          · cases hcs; simp; omega
          · cases hcs
      · intro h; cases h
  · exact h.elim

end
end Go.Ab
