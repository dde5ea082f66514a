/- What a region, a body and a function say on the abstract heap, and that the model does the same. -/
import Derived.Test.YtdbdmlfnggbdiaaZabOps4
namespace Go.Ab

/-! ### Calls -/

/-- The function can be entered. -/
def FnOK (P : Program) (f : FuncId) : Prop := ∃ fn, P.funcs[f]? = some fn ∧ fn.body.isNone = false ∧ (fn.name == "runtime.NumGoroutine") = false

/-- Arguments that stand for each other. -/
def VRs (φ : Phi) (H : Heap) (xs ys : Array Value) : Prop := xs.size = ys.size ∧ ∀ i (h : i < xs.size) (h' : i < ys.size), VR φ H xs[i] ys[i]

/-- From any world that fits the heap the call comes back, with this value, in a world that fits that heap. -/
def ARet (P : Program) (f : FuncId) (args : Array Value) (H : Heap) (v : Value) (H' : Heap) : Prop :=
  ∀ (φ : Phi) (w : World) (cargs : Array Value), Sim φ H w → VRs φ H args cargs →
    Calls P f cargs w fun e w' => ∃ φ' cv, e = .returned cv ∧ Ext φ H w φ' H' w' ∧ VR φ' H' v cv

/-- What a call says of what it gives. -/
def Runs (P : Program) (f : FuncId) (args : Array Value) (H : Heap) (Q : Post) : Prop := FnOK P f ∧ ∃ v H', ARet P f args H v H' ∧ Q v H'

theorem Runs.mono {P : Program} {f : FuncId} {args : Array Value} {H : Heap} {Q Q' : Post} (h : Runs P f args H Q) (hq : ∀ v H', Q v H' → Q' v H') : Runs P f args H Q' :=
  ⟨h.1, let ⟨v, H', r, q⟩ := h.2; ⟨v, H', r, hq v H' q⟩⟩

/-- A call of a function value. -/
def W.call (P : Program) (f : Value) (args : Array Value) (H : Heap) (k : Post) : Prop :=
  match f with
  | .func (.func i) first captured => Runs P i (first ++ args ++ captured) H k
  | _ => False

/-- What was, is as it was. -/
structure Heap.Le (H H' : Heap) : Prop where
  next : H.next ≤ H'.next
  blk : ∀ b, b < H.next → H'.blk b = H.blk b

theorem Heap.Le.refl (H : Heap) : H.Le H := ⟨Nat.le_refl _, fun _ _ => rfl⟩
theorem Heap.Le.trans {A B C : Heap} (h : A.Le B) (g : B.Le C) : A.Le C :=
  ⟨Nat.le_trans h.next g.next, fun b hb => (g.blk b (Nat.lt_of_lt_of_le hb h.next)).trans (h.blk b hb)⟩

theorem VRs.append {φ : Phi} {H : Heap} {xs xs' ys ys' : Array Value} (h : VRs φ H xs xs') (g : VRs φ H ys ys') : VRs φ H (xs ++ ys) (xs' ++ ys') := by
  refine ⟨by simp [h.1, g.1], fun i h1 h2 => ?_⟩
  by_cases hi : i < xs.size
  · have hi' : i < xs'.size := by have := h.1; omega
    rw [Array.getElem_append_left hi, Array.getElem_append_left hi']
    exact h.2 i hi hi'
  · have hi' : xs'.size ≤ i := by have := h.1; omega
    rw [Array.getElem_append_right (by omega), Array.getElem_append_right hi']
    simp only [← h.1]
    exact g.2 _ _ _

section
variable {P : Program} {o : Oper} {ev : Operand → Value} {k : Post} {H : Heap}

theorem W.call_sound {f : Operand} {args : Array Operand} {ts : Array TypeId} (ho : o.op = .call { callee := .value f, args, argTypes := ts })
    (h : W.call P (ev f) (args.map ev) H k) : ∃ v H', k v H' ∧ OpStep P o ev H v H' := by
  unfold W.call at h
  split at h
  · rename_i i first captured e
    obtain ⟨⟨fn, hfn, hbody, hname⟩, v, H', hret, hk⟩ := h
    refine ⟨v, H', hk, fun φ w a next Q s hx hn => ?_⟩
    have hf := hx f (by rw [ho]; simp [Op.operands, Call.operands])
    rw [e] at hf
    obtain ⟨first', captured', hf, h1, h2, r1, r2⟩ := hf.of_func
    have hargs : VRs φ H (args.map ev) (args.map a.eval) := ⟨by simp, fun i g1 g2 => by
      simp only [Array.getElem_map]
      exact hx _ (by rw [ho]; simp [Op.operands, Call.operands])⟩
    have hall : VRs φ H (first ++ args.map ev ++ captured) (first' ++ args.map a.eval ++ captured') := (VRs.append ⟨h1, r1⟩ hargs).append ⟨h2, r2⟩
    unfold Oper.wp
    have hrun : (execOp a.eval o).run P w = .ok (.enter i (first' ++ args.map a.eval ++ captured')) w := by
      have g1 : ¬ fn.name = "runtime.NumGoroutine" := by simpa using hname
      have g2 : ¬ fn.body = none := fun e => by rw [e] at hbody; cases hbody
      simp [execOp, ho, resolve, hf, Deferred.ofValue, invoke, callFunc, hfn, g1, g2]
    rw [hrun, Oper.upon_enter]
    refine (hret φ w _ s hall).mono fun e w' he => ?_
    obtain ⟨φ', cv, rfl, x, r⟩ := he
    exact hn φ' w' cv x r
  · exact h.elim

/-! ### One operation -/

/-- A constant, as far as it is told in full. -/
def cst (v : Value) : Value := if plainV v then v else junk

abbrev Frm := Nat → Value

def aev (fr : Frm) : Operand → Value
  | .tmp t => fr t
  | .const v => cst v
  | .global _ => junk
  | .func f => .func (.func f) #[] #[]

def denBin (P : Program) (op : BinOp) (t : TypeId) (x y : Value) (k : Post) (H : Heap) : Prop :=
  match P.underlying t with
  | some (.slice _) => W.eqNilR op x y H k
  | some .bool => W.eqBool op x y H k
  | _ => W.bin op x y H k

def denOp (P : Program) (o : Oper) (ev : Operand → Value) (k : Post) (H : Heap) : Prop :=
  match o.op with
  | .move x => k (ev x) H
  | .assign x => k (ev x) H
  | .pick c a b => W.pick (ev c) (ev a) (ev b) H k
  | .binOp op t x y _ => denBin P op t (ev x) (ev y) k H
  | .unOp op _ x => W.un op (ev x) H k
  | .convert src dst x =>
    match P.underlying src, P.underlying dst with
    | some _, some (.int κ) => W.conv κ (ev x) H k
    | _, _ => False
  | .alloc t =>
    match P.info? t with
    | some i =>
      match i.zero with
      | some z => match z.cells.toList.all plainV with | true => W.new z.cells.toList t H k | false => False
      | none => False
    | none => False
  | .box t x => W.box (ev x) t H k
  | .load t p =>
    match isAggT P t, P.info? t with
    | some false, _ => W.get (ev p) H k
    | some true, some i => W.getN i.size (ev p) H k
    | _, _ => False
  | .store t p x =>
    match isAggT P t, P.info? t with
    | some false, some i => match Nat.beq i.size 1 with | true => W.put (ev p) (ev x) H k | false => False
    | some true, some i => W.putN i.size (ev p) (ev x) H k
    | _, _ => False
  | .nilCheck x => W.nilCheck (ev x) H k
  | .fieldAddr t p j =>
    match P.underlying t with
    | some (.struct fs) =>
      match fs[j]? with
      | some f => match P.info? f.type with | some i => (match Nat.beq i.size 0 with | false => W.fieldAddr f.offset (ev p) H k | true => False) | none => False
      | none => False
    | _ => False
  | .field t x j =>
    match P.underlying t with
    | some (.struct fs) =>
      match fs[j]? with
      | some f =>
        match isAggT P f.type, P.info? f.type with
        | some false, _ => W.field f.offset (ev x) H k
        | some true, some i => W.fieldN f.offset i.size (ev x) H k
        | _, _ => False
      | none => False
    | _ => False
  | .indexAddr t x y =>
    match P.underlying t with
    | some (.slice e) => match P.info? e with | some i => W.indexAddr i.size (ev x) (ev y) H k | none => False
    | some (.array n e) => match P.info? e with | some i => W.indexArr n i.size (ev x) (ev y) H k | none => False
    | _ => False
  | .index t x y =>
    match P.underlying t with
    | some .string => W.indexStr (ev x) (ev y) H k
    | _ => False
  | .slice t x lo hi mx =>
    match P.underlying t, mx with
    | some (.slice e), none => match P.info? e with | some i => W.slice i.size (ev x) (lo.map ev) (hi.map ev) H k | none => False
    | some (.slice e), some mx =>
      match P.info? e, lo, hi with
      | some i, some lo, some hi => W.slice3 i.size (ev x) (ev lo) (ev hi) (ev mx) H k
      | _, _, _ => False
    | some .string, none => W.sliceStr (ev x) (lo.map ev) (hi.map ev) H k
    | _, _ => False
  | .extract x j => W.extract j (ev x) H k
  | .makeFunc (.func f) first captured => k (.func (.func f) (first.map ev) (captured.map ev)) H
  | .makeSlice t l c =>
    match P.underlying t with
    | some (.slice e) =>
      match P.info? e with
      | some i =>
        match i.zero with
        | some z =>
          match z.cells.toList.all plainV && Nat.beq z.cells.size i.size && Nat.ble i.bytes 1024 with
          | true => W.make z.cells.toList e (ev l) (ev c) H k
          | false => False
        | none => False
      | none => False
    | _ => False
  | .build t parts =>
    match P.underlying t, P.info? t with
    | some (.struct fs), some i =>
      match i.zero with
      | some z =>
        match z.cells.toList.all plainV && fs.toList.all (fun f => (P.info? f.type).isSome) && parts.toList.all (fun p => (fs[p.1]?).isSome) with
        | true => W.build z.cells.toList (parts.toList.map fun p => (((fs[p.1]?).map (·.offset)).getD 0, ((fs[p.1]?).map fun f => P.cellsOf f.type).getD 0, ev p.2)) H k
        | false => False
      | none => False
    | _, _ => False
  | .buildSlice t n parts =>
    match P.underlying t with
    | some (.slice e) =>
      match P.info? e with
      | some i =>
        match i.zero with
        | some z =>
          match z.cells.toList.all plainV && Nat.beq z.cells.size i.size && Nat.ble (n * i.size) 16777216 with
          | true => W.lit n z.cells.toList e (parts.toList.map fun p => (p.1 * i.size, i.size, ev p.2)) H k
          | false => False
        | none => False
      | none => False
    | _ => False
  | .call c =>
    match c.callee, c.args.toList, c.argTypes.toList with
    | .value f, _, _ => W.call P (ev f) (c.args.map ev) H k
    | .builtin .len, [x], [t] =>
      match P.underlying t with
      | some (.slice _) => W.len (ev x) H k
      | some .string => W.lenStr (ev x) H k
      | _ => False
    | .builtin .cap, [x], [t] =>
      match P.underlying t with
      | some (.slice _) => W.cap (ev x) H k
      | _ => False
    | .builtin .max, [x, y], _ => W.max2 (ev x) (ev y) H k
    | .builtin .min, [x, y], _ => W.min2 (ev x) (ev y) H k
    | .builtin .append, [x, y], [t, t2] =>
      match P.underlying t, P.underlying t2 with
      | some (.slice e), some (.slice _) =>
        match P.info? e with
        | some i =>
          match i.zero with
          | some z =>
            match Nat.beq z.cells.size i.size && Nat.ble i.bytes 1024 with
            | true => W.append i.size e (ev x) (ev y) H k
            | false => False
          | none => False
        | none => False
      | some (.slice e), some (.int _) =>
        match P.info? e with
        | some i =>
          match i.zero with
          | some z =>
            match z.cells.toList.all plainV && Nat.beq z.cells.size i.size && Nat.ble i.bytes 1024 with
            | true => W.appendZ z.cells.toList e (ev x) (ev y) H k
            | false => False
          | none => False
        | none => False
      | _, _ => False
    | _, _, _ => False
  | _ => False

theorem eq_toArray {α : Type} {a : Array α} {l : List α} (h : a.toList = l) : a = l.toArray := by rw [← h]

theorem call_eta {c : Call} {ca : Callee} {xs : List Operand} {ts : List TypeId} (h1 : c.callee = ca) (h2 : c.args.toList = xs) (h3 : c.argTypes.toList = ts) :
    c = { callee := ca, args := xs.toArray, argTypes := ts.toArray } := by
  cases c
  simp only at h1 h2 h3
  rw [h1, eq_toArray h2, eq_toArray h3]

theorem denOp_sound (h : denOp P o ev k H) : ∃ v H', k v H' ∧ OpStep P o ev H v H' := by
  unfold denOp at h
  split at h
  · rename_i ho; exact ⟨_, _, h, W.move_sound (.inl ho)⟩
  · rename_i ho; exact ⟨_, _, h, W.move_sound (.inr ho)⟩
  · rename_i ho; exact W.pick_sound ho h
  · rename_i ho
    unfold denBin at h
    split at h
    · exact W.eqNilR_sound ho (by assumption) h
    · exact W.eqBool_sound ho (by assumption) h
    · exact W.bin_sound ho h
  · rename_i ho; exact W.un_sound ho h
  · rename_i ho
    split at h
    · rename_i h1 h2; exact W.conv_sound ho (by rw [h1]; rfl) h2 h
    · exact h.elim
  · rename_i ho
    split at h
    · split at h
      · split at h
        · exact W.new_sound ho (by assumption) (by assumption) (by assumption) h
        · exact h.elim
      · exact h.elim
    · exact h.elim
  · rename_i ho; exact W.box_sound ho h
  · rename_i ho
    split at h
    · exact W.get_sound ho (by assumption) h
    · exact W.getN_sound ho (by assumption) (by assumption) h
    · exact h.elim
  · rename_i ho
    split at h
    · split at h
      · rename_i hb; exact W.put_sound ho (by assumption) (Nat.eq_of_beq_eq_true hb) h
      · exact h.elim
    · exact W.putN_sound ho (by assumption) h
    · exact h.elim
  · rename_i ho; exact W.nilCheck_sound ho h
  · rename_i ho
    split at h
    · split at h
      · split at h
        · split at h
          · rename_i hb
            exact W.fieldAddr_sound ho (by assumption) (by assumption) (by assumption) (fun e => by rw [e] at hb; cases hb) h
          · exact h.elim
        · exact h.elim
      · exact h.elim
    · exact h.elim
  · rename_i ho
    split at h
    · split at h
      · split at h
        · exact W.field_sound ho (by assumption) (by assumption) (by assumption) h
        · exact W.fieldN_sound ho (by assumption) (by assumption) (by assumption) (by assumption) h
        · exact h.elim
      · exact h.elim
    · exact h.elim
  · rename_i ho
    split at h
    · split at h
      · exact W.indexAddr_sound ho (by assumption) (by assumption) h
      · exact h.elim
    · split at h
      · exact W.indexArr_sound ho (by assumption) (by assumption) h
      · exact h.elim
    · exact h.elim
  · rename_i ho
    split at h
    · exact W.indexStr_sound ho (by assumption) h
    · exact h.elim
  · rename_i ho
    split at h
    · split at h
      · exact W.slice_sound ho (by assumption) (by assumption) h
      · exact h.elim
    · split at h
      · exact W.slice3_sound ho (by assumption) (by assumption) h
      · exact h.elim
    · exact W.sliceStr_sound ho (by assumption) h
    · exact h.elim
  · rename_i ho; exact W.extract_sound ho h
  · rename_i ho; exact ⟨_, _, h, W.makeFunc_sound ho⟩
  · rename_i ho
    split at h
    · split at h
      · split at h
        · split at h
          · rename_i hb
            simp only [Bool.and_eq_true] at hb
            exact W.make_sound ho (by assumption) (by assumption) (by assumption) (Nat.eq_of_beq_eq_true hb.1.2) hb.1.1 (Nat.le_of_ble_eq_true hb.2) h
          · exact h.elim
        · exact h.elim
      · exact h.elim
    · exact h.elim
  · rename_i ho
    split at h
    · split at h
      · split at h
        · rename_i hb
          simp only [Bool.and_eq_true] at hb
          exact W.build_sound ho (by assumption) (by assumption) (by assumption) hb.1.1 hb.1.2 hb.2 h
        · exact h.elim
      · exact h.elim
    · exact h.elim
  · rename_i ho
    split at h
    · split at h
      · split at h
        · split at h
          · rename_i hb
            simp only [Bool.and_eq_true] at hb
            exact W.lit_sound ho (by assumption) (by assumption) (by assumption) (Nat.eq_of_beq_eq_true hb.1.2) hb.1.1 (Nat.le_of_ble_eq_true hb.2) h
          · exact h.elim
        · exact h.elim
      · exact h.elim
    · exact h.elim
  · rename_i c ho
    split at h
    · rename_i f _ _ h1
      cases c with
      | mk ca args ts =>
        simp only at h1 h
        subst h1
        exact W.call_sound ho h
    · rename_i h1 h2 h3
      rw [call_eta h1 h2 h3] at ho
      split at h
      · exact W.len_sound ho (by assumption) h
      · exact W.lenStr_sound ho (by assumption) h
      · exact h.elim
    · rename_i h1 h2 h3
      rw [call_eta h1 h2 h3] at ho
      split at h
      · exact W.cap_sound ho (by assumption) h
      · exact h.elim
    · rename_i h1 h2
      rw [call_eta h1 h2 rfl] at ho
      exact W.max2_sound ho h
    · rename_i h1 h2
      rw [call_eta h1 h2 rfl] at ho
      exact W.min2_sound ho h
    · rename_i h1 h2 h3
      rw [call_eta h1 h2 h3] at ho
      split at h
      · split at h
        · split at h
          · split at h
            · rename_i hb
              simp only [Bool.and_eq_true] at hb
              exact W.append_sound ho (by assumption) (by assumption) (by assumption) (Nat.eq_of_beq_eq_true hb.1) (Nat.le_of_ble_eq_true hb.2) (by assumption) h
            · exact h.elim
          · exact h.elim
        · exact h.elim
      · split at h
        · split at h
          · split at h
            · rename_i hb
              simp only [Bool.and_eq_true] at hb
              exact W.appendZ_sound ho (by assumption) (by assumption) (by assumption) (Nat.eq_of_beq_eq_true hb.1.2) hb.1.1 (Nat.le_of_ble_eq_true hb.2) (by assumption) h
            · exact h.elim
          · exact h.elim
        · exact h.elim
      · exact h.elim
    · exact h.elim
  · exact h.elim


/-! ### Regions in the text's order -/

def Frm.put (fr : Frm) (d : Option Tmp) (v : Value) : Frm :=
  match d with
  | some d => fun i => match Nat.beq i d with | true => v | false => fr i
  | none => fr

/-- What is not told of. -/
def W.no : Heap → Prop := fun _ => False

/-- A guarded operation. -/
def W.guarded (g : Value) (want : Bool) (op : Heap → Post → Prop) (H : Heap) (k : Post) : Prop :=
  match g with
  | .bool b => match b == want with | true => op H k | false => k undef H
  | _ => False

/-- What a guard looks at. -/
def guardTmp (ops : List Oper) (j : Nat) : Option Tmp :=
  match ops[j]? with | some o => o.dst | none => none

def denGuarded (P : Program) (ops : List Oper) (o : Oper) (fr : Frm) (k : Post) (H : Heap) : Prop :=
  match o.guard with
  | none => denOp P o (aev fr) k H
  | some (j, want) =>
    match guardTmp ops j with
    | some t => W.guarded (fr t) want (fun H k => denOp P o (aev fr) k H) H k
    | none => False

def denOps (P : Program) (ops : List Oper) : List Oper → (Frm → Heap → Prop) → Frm → Heap → Prop
  | [], K, fr, H => K fr H
  | o :: rest, K, fr, H => denGuarded P ops o fr (fun v H' => denOps P ops rest K (fr.put o.dst v) H') H

/-- Slots that an operation may write. -/
def opsDst (ops : List Oper) (t : Nat) : Bool := ops.any fun o => match o.dst with | some d => Nat.beq d t | none => false

theorem Frm.put_ne {fr : Frm} {d : Option Tmp} {v : Value} {t : Nat} (h : (match d with | some d => Nat.beq d t | none => false) = false) : fr.put d v t = fr t := by
  cases d with
  | none => rfl
  | some d =>
    simp only [Frm.put]
    have : Nat.beq t d = false := by
      cases hb : Nat.beq t d with
      | false => rfl
      | true =>
        have := Nat.eq_of_beq_eq_true hb
        subst this
        simp at h
    rw [this]

/-- Frames that stand for each other. -/
def FR (φ : Phi) (H : Heap) (fr : Frm) (tmps : Array Value) : Prop := ∀ t, VR φ H (fr t) (tmps.getD t undef)

theorem undef_VR {φ : Phi} {H : Heap} : VR φ H undef undef := .tuple _ _ rfl (fun i h => by simp at h)

theorem FR.eval {φ : Phi} {H : Heap} {fr : Frm} {a : Act} (h : FR φ H fr a.tmps) (x : Operand) : VR φ H (aev fr x) (a.eval x) := by
  cases x with
  | tmp t => exact h t
  | const v =>
    simp only [aev, cst, Act.eval]
    split
    · exact plainV_VR (by assumption)
    · exact .junk _
  | global g => exact .junk _
  | func f => exact .func f #[] #[] #[] #[] rfl rfl (fun i h => by simp at h) (fun i h => by simp at h)

theorem put_tmps (a : Act) (d : Option Tmp) (v : Value) (t : Nat) :
    (a.put d v).tmps.getD t undef = if d = some t ∧ t < a.tmps.size then v else a.tmps.getD t undef := by
  cases d with
  | none => simp [Act.put]
  | some d =>
    simp only [Act.put, Option.some.injEq]
    simp only [Array.getD_eq_getD_getElem?, Array.getElem?_setIfInBounds]
    by_cases h : d = t
    · subst h
      by_cases h2 : d < a.tmps.size
      · simp [h2]
      · simp [h2]
    · simp [h]

theorem FR.put {φ' : Phi} {H' : Heap} {fr : Frm} {a : Act} (h : ∀ t, VR φ' H' (fr t) (a.tmps.getD t undef)) {d : Option Tmp} {v cv : Value} (hv : VR φ' H' v cv)
    (hd : ∀ t, d = some t → t < a.tmps.size) : FR φ' H' (fr.put d v) (a.put d cv).tmps := by
  intro t
  rw [put_tmps]
  cases d with
  | none => simpa [Frm.put] using h t
  | some d =>
    simp only [Frm.put]
    by_cases hdt : t = d
    · subst hdt
      rw [if_pos ⟨rfl, hd t rfl⟩, Nat.beq_refl]
      exact hv
    · have hb : Nat.beq t d = false := by
        cases hb : Nat.beq t d with
        | false => rfl
        | true => exact absurd (Nat.eq_of_beq_eq_true hb) hdt
      rw [if_neg (fun e => hdt (Option.some.inj e.1).symm), hb]
      exact h t

theorem put_size (a : Act) (d : Option Tmp) (v : Value) : (a.put d v).tmps.size = a.tmps.size := by
  cases d <;> simp [Act.put]

theorem put_defers (a : Act) (d : Option Tmp) (v : Value) : (a.put d v).defers = a.defers := by
  cases d <;> rfl

/-- A step of a frame, a heap: from any world and frame that fit to such that fit. -/
def CStep (P : Program) (c : Code) (n : Nat) (fr : Frm) (H : Heap) (e : Exit) (fr' : Frm) (H' : Heap) : Prop :=
  ∀ (φ : Phi) (w : World) (a : Act), Sim φ H w → FR φ H fr a.tmps → a.tmps.size = n → a.defers = [] →
    c.wp P (fun e' a' w' => e' = e ∧ a'.defers = [] ∧ a'.tmps.size = n ∧ ∃ φ', Ext φ H w φ' H' w' ∧ FR φ' H' fr' a'.tmps) a w

/-- All destinations lie in the frame. -/
def dstsOk (n : Nat) (ops : List Oper) : Bool := ops.all fun o => match o.dst with | some d => Nat.blt d n | none => true

theorem dstsOk_spec {n : Nat} {ops : List Oper} (h : dstsOk n ops = true) {o : Oper} (ho : o ∈ ops) : ∀ t, o.dst = some t → t < n := by
  intro t ht
  have := List.all_eq_true.1 h o ho
  rw [ht] at this
  exact Nat.le_of_ble_eq_true this

/-- What an operation that is perhaps guarded does. -/
def GStep (P : Program) (ops : List Oper) (o : Oper) (fr : Frm) (H : Heap) (v : Value) (H' : Heap) : Prop :=
  (OpStep P o (aev fr) H v H' ∧ (o.guard = none ∨ ∃ j want t, o.guard = some (j, want) ∧ guardTmp ops j = some t ∧ fr t = .bool want)) ∨
  (v = undef ∧ H' = H ∧ ∃ j want t b, o.guard = some (j, want) ∧ guardTmp ops j = some t ∧ fr t = .bool b ∧ (b == want) = false)

theorem denGuarded_sound {P : Program} {ops : List Oper} {o : Oper} {fr : Frm} {k : Post} {H : Heap} (h : denGuarded P ops o fr k H) :
    ∃ v H', k v H' ∧ GStep P ops o fr H v H' := by
  unfold denGuarded at h
  split at h
  · rename_i hg
    obtain ⟨v, H', hk, hs⟩ := denOp_sound h
    exact ⟨v, H', hk, .inl ⟨hs, .inl hg⟩⟩
  · rename_i j want hg
    split at h
    · rename_i t ht
      unfold W.guarded at h
      split at h
      · rename_i b hb
        split at h
        · rename_i hw
          obtain ⟨v, H', hk, hs⟩ := denOp_sound h
          exact ⟨v, H', hk, .inl ⟨hs, .inr ⟨j, want, t, hg, ht, by rw [hb]; rw [beq_iff_eq.1 hw]⟩⟩⟩
        · rename_i hw
          exact ⟨_, _, h, .inr ⟨rfl, rfl, j, want, t, b, hg, ht, hb, hw⟩⟩
      · exact h.elim
    · exact h.elim

theorem yielded_eq {ops : Array Oper} {tmps : Array Value} {j : Nat} {t : Tmp} (h : guardTmp ops.toList j = some t) {b : Bool} (hb : tmps.getD t undef = .bool b) :
    yielded ops tmps j = some b := by
  unfold guardTmp at h
  split at h
  · rename_i o ho
    have ho' : ops[j]? = some o := by simpa using ho
    simp only [yielded, ho', Option.bind_some, h]
    rw [Array.getD_eq_getD_getElem?] at hb
    cases ht : tmps[t]? with
    | none => rw [ht] at hb; cases hb
    | some v => rw [ht] at hb; simp only [Option.getD_some] at hb; simp [hb]
  · cases h

/-- The model's own step of such an operation. -/
theorem GStep.wpOp {P : Program} {ops : Array Oper} {o : Oper} {fr : Frm} {H : Heap} {v : Value} {H' : Heap} (h : GStep P ops.toList o fr H v H') {φ : Phi} {w : World} {a : Act}
    {next : Act → World → Prop} {Q : Exit → Act → World → Prop} (s : Sim φ H w) (hx : ∀ x, x ∈ o.op.operands.toList → VR φ H (aev fr x) (a.eval x))
    (hg : ∀ j want t, o.guard = some (j, want) → guardTmp ops.toList j = some t → VR φ H (fr t) (a.tmps.getD t undef))
    (hn : ∀ φ' w' cv, Ext φ H w φ' H' w' → VR φ' H' v cv → next (a.put o.dst cv) w') :
    if Region.wanted o (yielded ops a.tmps) then o.wp P a w next Q ∨ (o.asks P a w ∧ LetsOut Q) else next (a.put o.dst undef) w := by
  rcases h with ⟨hs, hg'⟩ | ⟨rfl, rfl, j, want, t, b, h1, h2, h3, h4⟩
  · have hw : Region.wanted o (yielded ops a.tmps) = true := by
      rcases hg' with hg' | ⟨j, want, t, h1, h2, h3⟩
      · simp [Region.wanted, hg']
      · have := hg j want t h1 h2
        rw [h3] at this
        simp [Region.wanted, h1, yielded_eq h2 this.of_bool]
    rw [if_pos hw]
    exact .inl (hs φ w a next Q s hx hn)
  · have := hg j want t h1 h2
    rw [h3] at this
    have hw : ¬ Region.wanted o (yielded ops a.tmps) = true := by
      simp only [Region.wanted, h1, yielded_eq h2 this.of_bool]
      intro e
      have : b = want := by simpa using e
      rw [this] at h4
      simp at h4
    rw [if_neg hw]
    exact hn φ w undef (.refl s) undef_VR

theorem denOps_sound {P : Program} {ops : Array Oper} {K : Frm → Heap → Prop} (n : Nat) : ∀ (l : List Oper) (fr : Frm) (H : Heap), denOps P ops.toList l K fr H → dstsOk n l = true →
    ∃ fr' H', K fr' H' ∧ (∀ t, opsDst l t = false → fr' t = fr t) ∧ ∀ (φ : Phi) (w : World) (a : Act), Sim φ H w → FR φ H fr a.tmps → a.tmps.size = n → a.defers = [] →
      wpList P ops (fun e' a' w' => e' = .normal ∧ a'.defers = [] ∧ a'.tmps.size = n ∧ ∃ φ', Ext φ H w φ' H' w' ∧ FR φ' H' fr' a'.tmps) l a w
  | [], fr, H, h, _ => ⟨fr, H, h, fun _ _ => rfl, fun φ w a s f hn hd => ⟨rfl, hd, hn, φ, .refl s, f⟩⟩
  | o :: rest, fr, H, h, hdst => by
    simp only [denOps] at h
    obtain ⟨v, H1, hk, hs⟩ := denGuarded_sound h
    have hd1 : dstsOk n rest = true := by simp only [dstsOk, List.all_cons, Bool.and_eq_true] at hdst ⊢; exact hdst.2
    obtain ⟨fr', H', hK, ha, hr⟩ := denOps_sound n rest _ _ hk hd1
    refine ⟨fr', H', hK, fun t ht => ?_, fun φ w a s f hn hd => ?_⟩
    · simp only [opsDst, List.any_cons, Bool.or_eq_false_iff] at ht
      rw [ha t ht.2]
      exact Frm.put_ne ht.1
    unfold wpList
    refine hs.wpOp s (fun x _ => f.eval x) (fun j want t _ _ => f t) fun φ1 w1 cv x1 r1 => ?_
    have f1 : FR φ1 H1 (fr.put o.dst v) (a.put o.dst cv).tmps :=
      FR.put (fun t => (f t).ext x1) r1 (fun t ht => by rw [hn]; exact dstsOk_spec hdst (by simp) t ht)
    have := hr φ1 w1 (a.put o.dst cv) x1.sim f1 (by rw [put_size]; exact hn) (by rw [put_defers]; exact hd)
    have mono : ∀ (l : List Oper) (a : Act) (w : World) (Q Q' : Exit → Act → World → Prop), (∀ e a w, Q e a w → Q' e a w) → wpList P ops Q l a w → wpList P ops Q' l a w := by
      intro l
      induction l with
      | nil => intro a w Q Q' hq h; exact hq _ _ _ h
      | cons o l ih =>
        intro a w Q Q' hq h
        unfold wpList at h ⊢
        split
        · rename_i hw
          rw [if_pos hw] at h
          rcases h with h | ⟨h1, a0, w0, h2⟩
          · left
            unfold Oper.wp at h ⊢
            generalize (execOp a.eval o).run P w = r at h ⊢
            cases r with
            | ok n w' =>
              cases n <;> simp only [Oper.upon] at h ⊢ <;>
                first
                  | exact ih _ _ _ _ hq h
                  | exact Calls.mono h (fun e w'' he => by cases e <;> first | exact ih _ _ _ _ hq he | exact hq _ _ _ he | exact he.imp fun a h => h.imp fun w h => hq _ _ _ h)
                  | exact Rows.mono h (fun _ _ he => ih _ _ _ _ hq he)
                  | exact h
            | halt x w' => cases x <;> simp only [Oper.upon] at h ⊢ <;> first | exact hq _ _ _ h | exact h
          · exact .inr ⟨h1, a0, w0, hq _ _ _ h2⟩
        · rename_i hw
          rw [if_neg hw] at h
          exact ih _ _ _ _ hq h
    refine mono _ _ _ _ _ ?_ this
    rintro e a' w' ⟨h1, h2, h3, φ', x2, f2⟩
    exact ⟨h1, h2, h3, φ', x1.trans x2, f2⟩

end
end Go.Ab
