/- What a region, a body and a function say on the abstract heap, and that the model does the same. -/
import Derived.Test.YtgdiebnokgnniaaGreatDoorZabG1
import Derived.Orders
namespace Go.Ab

/-! ### Calls -/

/-- The function can be entered. -/
def FnOK (P : Program) (f : FuncId) : Prop := ∃ fn, P.funcs[f]? = some fn ∧ fn.body.isNone = false ∧ (fn.name == "runtime.NumGoroutine") = false

/-- Arguments that stand for each other. -/
def VRs (φ : Phi) (H : Heap) (xs ys : Array Value) : Prop := xs.size = ys.size ∧ ∀ i (h : i < xs.size) (h' : i < ys.size), VR φ H xs[i] ys[i]

/-- From any world that fits the heap the call comes back, with this value, in a world that fits that heap. -/
def ARet (P : Program) (f : FuncId) (args : Array Value) (H : Heap) (v : Value) (H' : Heap) : Prop :=
  ∀ (φ : Phi) (w : World) (cargs : Array Value), Sim φ H w → VRs φ H args cargs →
    Calls P f cargs w fun e w' => ∃ φ' cv, e = .returned cv ∧ Ext φ H w φ' H' w' ∧ VR φ' H' v cv

/-- What a call says of what it gives. -/
def Runs (P : Program) (f : FuncId) (args : Array Value) (H : Heap) (Q : Post) : Prop := FnOK P f ∧ ∃ v H', ARet P f args H v H' ∧ Q v H'

/-- A call of a function value. -/
def W.call (P : Program) (f : Value) (args : Array Value) (H : Heap) (k : Post) : Prop :=
  match f with
  | .func (.func i) first captured => Runs P i (first ++ args ++ captured) H k
  | _ => False

/-- What was, is as it was. -/
structure Heap.Le (H H' : Heap) : Prop where
  next : H.next ≤ H'.next
  blk : ∀ b, b < H.next → H'.blk b = H.blk b

theorem Heap.Le.refl (H : Heap) : H.Le H := ⟨Nat.le_refl _, fun _ _ => rfl⟩
theorem Heap.Le.trans {A B C : Heap} (h : A.Le B) (g : B.Le C) : A.Le C :=
  ⟨Nat.le_trans h.next g.next, fun b hb => (g.blk b (Nat.lt_of_lt_of_le hb h.next)).trans (h.blk b hb)⟩

theorem VRs.append {φ : Phi} {H : Heap} {xs xs' ys ys' : Array Value} (h : VRs φ H xs xs') (g : VRs φ H ys ys') : VRs φ H (xs ++ ys) (xs' ++ ys') := by
  refine ⟨by simp [h.1, g.1], fun i h1 h2 => ?_⟩
  by_cases hi : i < xs.size
  · have hi' : i < xs'.size := by have := h.1; omega
    rw [Array.getElem_append_left hi, Array.getElem_append_left hi']
    exact h.2 i hi hi'
  · have hi' : xs'.size ≤ i := by have := h.1; omega
    rw [Array.getElem_append_right (by omega), Array.getElem_append_right hi']
    simp only [← h.1]
    exact g.2 _ _ _

section
variable {P : Program} {o : Oper} {ev : Operand → Value} {k : Post} {H : Heap}

theorem W.call_sound {f : Operand} {args : Array Operand} {ts : Array TypeId} (ho : o.op = .call { callee := .value f, args, argTypes := ts })
    (h : W.call P (ev f) (args.map ev) H k) : ∃ v H', k v H' ∧ OpStep P o ev H v H' := by
  unfold W.call at h
  split at h
  · rename_i i first captured e
    obtain ⟨⟨fn, hfn, hbody, hname⟩, v, H', hret, hk⟩ := h
    refine ⟨v, H', hk, fun φ w a next Q s hx hn => ?_⟩
    have hf := hx f (by rw [ho]; simp [Op.operands, Call.operands])
    rw [e] at hf
    obtain ⟨first', captured', hf, h1, h2, r1, r2⟩ := hf.of_func
    have hargs : VRs φ H (args.map ev) (args.map a.eval) := ⟨by simp, fun i g1 g2 => by
      simp only [Array.getElem_map]
      exact hx _ (by rw [ho]; simp [Op.operands, Call.operands])⟩
    have hall : VRs φ H (first ++ args.map ev ++ captured) (first' ++ args.map a.eval ++ captured') := (VRs.append ⟨h1, r1⟩ hargs).append ⟨h2, r2⟩
    unfold Oper.wp
    have hrun : (execOp a.eval o).run P w = .ok (.enter i (first' ++ args.map a.eval ++ captured')) w := by
      have g1 : ¬ fn.name = "runtime.NumGoroutine" := by simpa using hname
      have g2 : ¬ fn.body = none := fun e => by rw [e] at hbody; cases hbody
      simp [execOp, ho, resolve, hf, Deferred.ofValue, invoke, callFunc, hfn, g1, g2]
    rw [hrun, Oper.upon_enter]
    refine (hret φ w _ s hall).mono fun e w' he => ?_
    obtain ⟨φ', cv, rfl, x, r⟩ := he
    exact hn φ' w' cv x r
  · exact h.elim

/-! ### One operation -/

/-- A constant, as far as it is told in full. -/
def cst (v : Value) : Value := if plainV v then v else junk

abbrev Frm := Nat → Value

def aev (fr : Frm) : Operand → Value
  | .tmp t => fr t
  | .const v => cst v
  | .global _ => junk
  | .func f => .func (.func f) #[] #[]

def denBin (P : Program) (op : BinOp) (t : TypeId) (c : Bool) (x y : Value) (k : Post) (H : Heap) : Prop :=
  match P.underlying t with
  | some (.interface _) => W.eqNilI c op x y H k
  | some (.slice _) => W.eqNilR op x y H k
  | some .bool => W.eqBool op x y H k
  | some (.struct _) => (match pairT P t with | true => W.eqPair op x y H k | false => W.bin op x y H k)
  | _ => W.bin op x y H k

def denOp (P : Program) (o : Oper) (ev : Operand → Value) (k : Post) (H : Heap) : Prop :=
  match o.op with
  | .move x => k (ev x) H
  | .assign x => k (ev x) H
  | .pick c a b => W.pick (ev c) (ev a) (ev b) H k
  | .binOp op t x y _ => denBin P op t (isC y) (ev x) (ev y) k H
  | .unOp op _ x => W.un op (ev x) H k
  | .convert src dst x =>
    match P.underlying src, P.underlying dst with
    | some _, some (.int κ) => W.conv κ (ev x) H k
    | some (.slice e), some .string => (match P.underlying e with | some (.int .u8) => W.toStr (ev x) H k | _ => False)
    | _, _ => False
  | .alloc t =>
    match P.info? t with
    | some i =>
      match i.zero with
      | some z => match z.cells.toList.all plainV with | true => W.new z.cells.toList t H k | false => False
      | none => False
    | none => False
  | .box t x => W.box (ev x) t H k
  | .load t p =>
    match isAggT P t, P.info? t with
    | some false, _ => W.get (ev p) H k
    | some true, some i => W.getN i.size (ev p) H k
    | _, _ => False
  | .store t p x =>
    match isAggT P t, P.info? t with
    | some false, some i => match Nat.beq i.size 1 with | true => W.put (ev p) (ev x) H k | false => False
    | some true, some i => W.putN i.size (ev p) (ev x) H k
    | _, _ => False
  | .nilCheck x => W.nilCheck (ev x) H k
  | .fieldAddr t p j =>
    match P.underlying t with
    | some (.struct fs) =>
      match fs[j]? with
      | some f => match P.info? f.type with | some i => (match Nat.beq i.size 0 with | false => W.fieldAddr f.offset (ev p) H k | true => False) | none => False
      | none => False
    | _ => False
  | .field t x j =>
    match P.underlying t with
    | some (.struct fs) =>
      match fs[j]? with
      | some f =>
        match isAggT P f.type, P.info? f.type with
        | some false, _ => W.field f.offset (ev x) H k
        | some true, some i => W.fieldN f.offset i.size (ev x) H k
        | _, _ => False
      | none => False
    | _ => False
  | .indexAddr t x y =>
    match P.underlying t with
    | some (.slice e) => match P.info? e with | some i => W.indexAddr i.size (ev x) (ev y) H k | none => False
    | some (.array n e) => match P.info? e with | some i => W.indexArr n i.size (ev x) (ev y) H k | none => False
    | _ => False
  | .index t x y =>
    match P.underlying t with
    | some .string => W.indexStr (ev x) (ev y) H k
    | _ => False
  | .slice t x lo hi mx =>
    match P.underlying t, mx with
    | some (.slice e), none => match P.info? e with | some i => W.slice i.size (ev x) (lo.map ev) (hi.map ev) H k | none => False
    | some (.slice e), some mx =>
      match P.info? e, lo, hi with
      | some i, some lo, some hi => W.slice3 i.size (ev x) (ev lo) (ev hi) (ev mx) H k
      | _, _, _ => False
    | some .string, none => W.sliceStr (ev x) (lo.map ev) (hi.map ev) H k
    | _, _ => False
  | .extract x j => W.extract j (ev x) H k
  | .makeFunc (.func f) first captured => k (.func (.func f) (first.map ev) (captured.map ev)) H
  | .makeSlice t l c =>
    match P.underlying t with
    | some (.slice e) =>
      match P.info? e with
      | some i =>
        match i.zero with
        | some z =>
          match z.cells.toList.all plainV && Nat.beq z.cells.size i.size && Nat.ble i.bytes 1024 with
          | true => W.make z.cells.toList e (ev l) (ev c) H k
          | false => False
        | none => False
      | none => False
    | _ => False
  | .build t parts =>
    match P.underlying t, P.info? t with
    | some (.struct fs), some i =>
      match i.zero with
      | some z =>
        match z.cells.toList.all plainV && fs.toList.all (fun f => (P.info? f.type).isSome) && parts.toList.all (fun p => (fs[p.1]?).isSome) with
        | true => W.build z.cells.toList (parts.toList.map fun p => (((fs[p.1]?).map (·.offset)).getD 0, ((fs[p.1]?).map fun f => P.cellsOf f.type).getD 0, ev p.2)) H k
        | false => False
      | none => False
    | _, _ => False
  | .buildSlice t n parts =>
    match P.underlying t with
    | some (.slice e) =>
      match P.info? e with
      | some i =>
        match i.zero with
        | some z =>
          match z.cells.toList.all plainV && Nat.beq z.cells.size i.size && Nat.ble (n * i.size) 16777216 with
          | true => W.lit n z.cells.toList e (parts.toList.map fun p => (p.1 * i.size, i.size, ev p.2)) H k
          | false => False
        | none => False
      | none => False
    | _ => False
  | .call c =>
    match c.callee, c.args.toList, c.argTypes.toList with
    | .value f, _, _ => W.call P (ev f) (c.args.map ev) H k
    | .builtin .len, [x], [t] =>
      match P.underlying t with
      | some (.slice _) => W.len (ev x) H k
      | some .string => W.lenStr (ev x) H k
      | _ => False
    | .builtin .cap, [x], [t] =>
      match P.underlying t with
      | some (.slice _) => W.cap (ev x) H k
      | _ => False
    | .builtin .max, [x, y], _ => W.max2 (ev x) (ev y) H k
    | .builtin .min, [x, y], _ => W.min2 (ev x) (ev y) H k
    | .builtin .append, [x, y], [t, t2] =>
      match P.underlying t, P.underlying t2 with
      | some (.slice e), some (.slice _) =>
        match P.info? e with
        | some i =>
          match i.zero with
          | some z =>
            match Nat.beq z.cells.size i.size && Nat.ble i.bytes 1024 with
            | true => W.append i.size e (ev x) (ev y) H k
            | false => False
          | none => False
        | none => False
      | some (.slice e), some (.int _) =>
        match P.info? e with
        | some i =>
          match i.zero with
          | some z =>
            match z.cells.toList.all plainV && Nat.beq z.cells.size i.size && Nat.ble i.bytes 1024 with
            | true => W.appendZ z.cells.toList e (ev x) (ev y) H k
            | false => False
          | none => False
        | none => False
      | _, _ => False
    | .builtin .copy, [x, y], [t, _] =>
      match P.underlying t with
      | some (.slice e) =>
        match P.info? e with
        | some i => W.copy i.size (ev x) (ev y) H k
        | none => False
      | _ => False
    | .builtin .clear, [x], [t] =>
      match P.underlying t with
      | some (.slice e) =>
        match P.info? e with
        | some i =>
          match i.zero with
          | some z =>
            match z.cells.toList.all plainV with
            | true => W.clear z.cells.toList (ev x) H k
            | false => False
          | none => False
        | none => False
      | _ => False
    | _, _, _ => False
  | _ => False

theorem eq_toArray {α : Type} {a : Array α} {l : List α} (h : a.toList = l) : a = l.toArray := by rw [← h]

theorem call_eta {c : Call} {ca : Callee} {xs : List Operand} {ts : List TypeId} (h1 : c.callee = ca) (h2 : c.args.toList = xs) (h3 : c.argTypes.toList = ts) :
    c = { callee := ca, args := xs.toArray, argTypes := ts.toArray } := by
  cases c
  simp only at h1 h2 h3
  rw [h1, eq_toArray h2, eq_toArray h3]

theorem denOp_sound (h : denOp P o ev k H) : ∃ v H', k v H' ∧ OpStep P o ev H v H' := by
  unfold denOp at h
  split at h
  · rename_i ho; exact ⟨_, _, h, W.move_sound (.inl ho)⟩
  · rename_i ho; exact ⟨_, _, h, W.move_sound (.inr ho)⟩
  · rename_i ho; exact W.pick_sound ho h
  · rename_i ho
    unfold denBin at h
    split at h
    · exact W.eqNilI_sound ho (by assumption) h
    · exact W.eqNilR_sound ho (by assumption) h
    · exact W.eqBool_sound ho (by assumption) h
    · split at h
      · exact W.eqPair_sound ho (by assumption) h
      · exact W.bin_sound ho h
    · exact W.bin_sound ho h
  · rename_i ho; exact W.un_sound ho h
  · rename_i ho
    split at h
    · rename_i h1 h2; exact W.conv_sound ho (by rw [h1]; rfl) h2 h
    · rename_i h1 h2
      split at h
      · exact W.toStr_sound ho h1 (by assumption) h2 h
      · exact h.elim
    · exact h.elim
  · rename_i ho
    split at h
    · split at h
      · split at h
        · exact W.new_sound ho (by assumption) (by assumption) (by assumption) h
        · exact h.elim
      · exact h.elim
    · exact h.elim
  · rename_i ho; exact W.box_sound ho h
  · rename_i ho
    split at h
    · exact W.get_sound ho (by assumption) h
    · exact W.getN_sound ho (by assumption) (by assumption) h
    · exact h.elim
  · rename_i ho
    split at h
    · split at h
      · rename_i hb; exact W.put_sound ho (by assumption) (Nat.eq_of_beq_eq_true hb) h
      · exact h.elim
    · exact W.putN_sound ho (by assumption) h
    · exact h.elim
  · rename_i ho; exact W.nilCheck_sound ho h
  · rename_i ho
    split at h
    · split at h
      · split at h
        · split at h
          · rename_i hb
            exact W.fieldAddr_sound ho (by assumption) (by assumption) (by assumption) (fun e => by rw [e] at hb; cases hb) h
          · exact h.elim
        · exact h.elim
      · exact h.elim
    · exact h.elim
  · rename_i ho
    split at h
    · split at h
      · split at h
        · exact W.field_sound ho (by assumption) (by assumption) (by assumption) h
        · exact W.fieldN_sound ho (by assumption) (by assumption) (by assumption) (by assumption) h
        · exact h.elim
      · exact h.elim
    · exact h.elim
  · rename_i ho
    split at h
    · split at h
      · exact W.indexAddr_sound ho (by assumption) (by assumption) h
      · exact h.elim
    · split at h
      · exact W.indexArr_sound ho (by assumption) (by assumption) h
      · exact h.elim
    · exact h.elim
  · rename_i ho
    split at h
    · exact W.indexStr_sound ho (by assumption) h
    · exact h.elim
  · rename_i ho
    split at h
    · split at h
      · exact W.slice_sound ho (by assumption) (by assumption) h
      · exact h.elim
    · split at h
      · exact W.slice3_sound ho (by assumption) (by assumption) h
      · exact h.elim
    · exact W.sliceStr_sound ho (by assumption) h
    · exact h.elim
  · rename_i ho; exact W.extract_sound ho h
  · rename_i ho; exact ⟨_, _, h, W.makeFunc_sound ho⟩
  · rename_i ho
    split at h
    · split at h
      · split at h
        · split at h
          · rename_i hb
            simp only [Bool.and_eq_true] at hb
            exact W.make_sound ho (by assumption) (by assumption) (by assumption) (Nat.eq_of_beq_eq_true hb.1.2) hb.1.1 (Nat.le_of_ble_eq_true hb.2) h
          · exact h.elim
        · exact h.elim
      · exact h.elim
    · exact h.elim
  · rename_i ho
    split at h
    · split at h
      · split at h
        · rename_i hb
          simp only [Bool.and_eq_true] at hb
          exact W.build_sound ho (by assumption) (by assumption) (by assumption) hb.1.1 hb.1.2 hb.2 h
        · exact h.elim
      · exact h.elim
    · exact h.elim
  · rename_i ho
    split at h
    · split at h
      · split at h
        · split at h
          · rename_i hb
            simp only [Bool.and_eq_true] at hb
            exact W.lit_sound ho (by assumption) (by assumption) (by assumption) (Nat.eq_of_beq_eq_true hb.1.2) hb.1.1 (Nat.le_of_ble_eq_true hb.2) h
          · exact h.elim
        · exact h.elim
      · exact h.elim
    · exact h.elim
  · rename_i c ho
    split at h
    · rename_i f _ _ h1
      cases c with
      | mk ca args ts =>
        simp only at h1 h
        subst h1
        exact W.call_sound ho h
    · rename_i h1 h2 h3
      rw [call_eta h1 h2 h3] at ho
      split at h
      · exact W.len_sound ho (by assumption) h
      · exact W.lenStr_sound ho (by assumption) h
      · exact h.elim
    · rename_i h1 h2 h3
      rw [call_eta h1 h2 h3] at ho
      split at h
      · exact W.cap_sound ho (by assumption) h
      · exact h.elim
    · rename_i h1 h2
      rw [call_eta h1 h2 rfl] at ho
      exact W.max2_sound ho h
    · rename_i h1 h2
      rw [call_eta h1 h2 rfl] at ho
      exact W.min2_sound ho h
    · rename_i h1 h2 h3
      rw [call_eta h1 h2 h3] at ho
      split at h
      · split at h
        · split at h
          · split at h
            · rename_i hb
              simp only [Bool.and_eq_true] at hb
              exact W.append_sound ho (by assumption) (by assumption) (by assumption) (Nat.eq_of_beq_eq_true hb.1) (Nat.le_of_ble_eq_true hb.2) (by assumption) h
            · exact h.elim
          · exact h.elim
        · exact h.elim
      · split at h
        · split at h
          · split at h
            · rename_i hb
              simp only [Bool.and_eq_true] at hb
              exact W.appendZ_sound ho (by assumption) (by assumption) (by assumption) (Nat.eq_of_beq_eq_true hb.1.2) hb.1.1 (Nat.le_of_ble_eq_true hb.2) (by assumption) h
            · exact h.elim
          · exact h.elim
        · exact h.elim
      · exact h.elim
    · rename_i h1 h2 h3
      rw [call_eta h1 h2 h3] at ho
      split at h
      · split at h
        · exact W.copy_sound ho (by assumption) (by assumption) h
        · exact h.elim
      · exact h.elim
    · rename_i h1 h2 h3
      rw [call_eta h1 h2 h3] at ho
      split at h
      · split at h
        · split at h
          · split at h
            · exact W.clear_sound ho (by assumption) (by assumption) (by assumption) (by assumption) h
            · exact h.elim
          · exact h.elim
        · exact h.elim
      · exact h.elim
    · exact h.elim
  · exact h.elim


/-! ### Regions in the text's order -/

def Frm.put (fr : Frm) (d : Option Tmp) (v : Value) : Frm :=
  match d with
  | some d => fun i => match Nat.beq i d with | true => v | false => fr i
  | none => fr

/-- What is not told of. -/
def W.no : Heap → Prop := fun _ => False

/-- A guarded operation. -/
def W.guarded (g : Value) (want : Bool) (op : Heap → Post → Prop) (H : Heap) (k : Post) : Prop :=
  match g with
  | .bool b => match b == want with | true => op H k | false => k undef H
  | .tuple xs => match xs.size with | 0 => k undef H | _ => False
  | _ => False

/-- What a guard looks at. -/
def guardTmp (ops : List Oper) (j : Nat) : Option Tmp :=
  match ops[j]? with | some o => o.dst | none => none

def denGuarded (P : Program) (ops : List Oper) (o : Oper) (fr : Frm) (k : Post) (H : Heap) : Prop :=
  match o.guard with
  | none => denOp P o (aev fr) k H
  | some (j, want) =>
    match guardTmp ops j with
    | some t => W.guarded (fr t) want (fun H k => denOp P o (aev fr) k H) H k
    | none => False

def denOps (P : Program) (ops : List Oper) : List Oper → (Frm → Heap → Prop) → Frm → Heap → Prop
  | [], K, fr, H => K fr H
  | o :: rest, K, fr, H => denGuarded P ops o fr (fun v H' => denOps P ops rest K (fr.put o.dst v) H') H

/-- Slots that an operation may write. -/
def opsDst (ops : List Oper) (t : Nat) : Bool := ops.any fun o => match o.dst with | some d => Nat.beq d t | none => false

theorem Frm.put_ne {fr : Frm} {d : Option Tmp} {v : Value} {t : Nat} (h : (match d with | some d => Nat.beq d t | none => false) = false) : fr.put d v t = fr t := by
  cases d with
  | none => rfl
  | some d =>
    simp only [Frm.put]
    have : Nat.beq t d = false := by
      cases hb : Nat.beq t d with
      | false => rfl
      | true =>
        have := Nat.eq_of_beq_eq_true hb
        subst this
        simp at h
    rw [this]

/-- Frames that stand for each other. -/
def FR (φ : Phi) (H : Heap) (fr : Frm) (tmps : Array Value) : Prop := ∀ t, VR φ H (fr t) (tmps.getD t undef)

theorem undef_VR {φ : Phi} {H : Heap} : VR φ H undef undef := .tuple _ _ rfl (fun i h => by simp at h)

theorem FR.eval {φ : Phi} {H : Heap} {fr : Frm} {a : Act} (h : FR φ H fr a.tmps) (x : Operand) : VR φ H (aev fr x) (a.eval x) := by
  cases x with
  | tmp t => exact h t
  | const v =>
    simp only [aev, cst, Act.eval]
    split
    · exact plainV_VR (by assumption)
    · exact .junk _
  | global g => exact .junk _
  | func f => exact .func f #[] #[] #[] #[] rfl rfl (fun i h => by simp at h) (fun i h => by simp at h)

theorem put_tmps (a : Act) (d : Option Tmp) (v : Value) (t : Nat) :
    (a.put d v).tmps.getD t undef = if d = some t ∧ t < a.tmps.size then v else a.tmps.getD t undef := by
  cases d with
  | none => simp [Act.put]
  | some d =>
    simp only [Act.put, Option.some.injEq]
    simp only [Array.getD_eq_getD_getElem?, Array.getElem?_setIfInBounds]
    by_cases h : d = t
    · subst h
      by_cases h2 : d < a.tmps.size
      · simp [h2]
      · simp [h2]
    · simp [h]

theorem FR.put {φ' : Phi} {H' : Heap} {fr : Frm} {a : Act} (h : ∀ t, VR φ' H' (fr t) (a.tmps.getD t undef)) {d : Option Tmp} {v cv : Value} (hv : VR φ' H' v cv)
    (hd : ∀ t, d = some t → t < a.tmps.size) : FR φ' H' (fr.put d v) (a.put d cv).tmps := by
  intro t
  rw [put_tmps]
  cases d with
  | none => simpa [Frm.put] using h t
  | some d =>
    simp only [Frm.put]
    by_cases hdt : t = d
    · subst hdt
      rw [if_pos ⟨rfl, hd t rfl⟩, Nat.beq_refl]
      exact hv
    · have hb : Nat.beq t d = false := by
        cases hb : Nat.beq t d with
        | false => rfl
        | true => exact absurd (Nat.eq_of_beq_eq_true hb) hdt
      rw [if_neg (fun e => hdt (Option.some.inj e.1).symm), hb]
      exact h t

theorem put_size (a : Act) (d : Option Tmp) (v : Value) : (a.put d v).tmps.size = a.tmps.size := by
  cases d <;> simp [Act.put]

theorem put_defers (a : Act) (d : Option Tmp) (v : Value) : (a.put d v).defers = a.defers := by
  cases d <;> rfl

/-- A step of a frame, a heap: from any world and frame that fit to such that fit. -/
def CStep (P : Program) (c : Code) (n : Nat) (fr : Frm) (H : Heap) (e : Exit) (fr' : Frm) (H' : Heap) : Prop :=
  ∀ (φ : Phi) (w : World) (a : Act), Sim φ H w → FR φ H fr a.tmps → a.tmps.size = n → a.defers = [] →
    c.wp P (fun e' a' w' => e' = e ∧ a'.defers = [] ∧ a'.tmps.size = n ∧ ∃ φ', Ext φ H w φ' H' w' ∧ FR φ' H' fr' a'.tmps) a w

/-- All destinations lie in the frame. -/
def dstsOk (n : Nat) (ops : List Oper) : Bool := ops.all fun o => match o.dst with | some d => Nat.blt d n | none => true

theorem dstsOk_spec {n : Nat} {ops : List Oper} (h : dstsOk n ops = true) {o : Oper} (ho : o ∈ ops) : ∀ t, o.dst = some t → t < n := by
  intro t ht
  have := List.all_eq_true.1 h o ho
  rw [ht] at this
  exact Nat.le_of_ble_eq_true this

/-- A guard with this value keeps its operation away: another truth value, or none, where the guard itself was kept away. -/
def Skips (v : Value) (want : Bool) : Prop := (∃ b, v = .bool b ∧ (b == want) = false) ∨ v = undef

/-- What an operation that is perhaps guarded does. -/
def GStep (P : Program) (ops : List Oper) (o : Oper) (fr : Frm) (H : Heap) (v : Value) (H' : Heap) : Prop :=
  (OpStep P o (aev fr) H v H' ∧ (o.guard = none ∨ ∃ j want t, o.guard = some (j, want) ∧ guardTmp ops j = some t ∧ fr t = .bool want)) ∨
  (v = undef ∧ H' = H ∧ ∃ j want t, o.guard = some (j, want) ∧ guardTmp ops j = some t ∧ Skips (fr t) want)

theorem denGuarded_sound {P : Program} {ops : List Oper} {o : Oper} {fr : Frm} {k : Post} {H : Heap} (h : denGuarded P ops o fr k H) :
    ∃ v H', k v H' ∧ GStep P ops o fr H v H' := by
  unfold denGuarded at h
  split at h
  · rename_i hg
    obtain ⟨v, H', hk, hs⟩ := denOp_sound h
    exact ⟨v, H', hk, .inl ⟨hs, .inl hg⟩⟩
  · rename_i j want hg
    split at h
    · rename_i t ht
      unfold W.guarded at h
      split at h
      · rename_i b hb
        split at h
        · rename_i hw
          obtain ⟨v, H', hk, hs⟩ := denOp_sound h
          exact ⟨v, H', hk, .inl ⟨hs, .inr ⟨j, want, t, hg, ht, by rw [hb]; rw [beq_iff_eq.1 hw]⟩⟩⟩
        · rename_i hw
          exact ⟨_, _, h, .inr ⟨rfl, rfl, j, want, t, hg, ht, .inl ⟨b, hb, hw⟩⟩⟩
      · rename_i xs hb
        split at h
        · rename_i hz
          exact ⟨_, _, h, .inr ⟨rfl, rfl, j, want, t, hg, ht, .inr (by rw [hb, Array.eq_empty_of_size_eq_zero hz]; rfl)⟩⟩
        · exact h.elim
      · exact h.elim
    · exact h.elim

theorem yielded_eq {ops : Array Oper} {tmps : Array Value} {j : Nat} {t : Tmp} (h : guardTmp ops.toList j = some t) {b : Bool} (hb : tmps.getD t undef = .bool b) :
    yielded ops tmps j = some b := by
  unfold guardTmp at h
  split at h
  · rename_i o ho
    have ho' : ops[j]? = some o := by simpa using ho
    simp only [yielded, ho', Option.bind_some, h]
    rw [Array.getD_eq_getD_getElem?] at hb
    cases ht : tmps[t]? with
    | none => rw [ht] at hb; cases hb
    | some v => rw [ht] at hb; simp only [Option.getD_some] at hb; simp [hb]
  · cases h

theorem yielded_none {ops : Array Oper} {tmps : Array Value} {j : Nat} {t : Tmp} (h : guardTmp ops.toList j = some t) (hb : tmps.getD t undef = undef) :
    yielded ops tmps j = none := by
  unfold guardTmp at h
  split at h
  · rename_i o ho
    have ho' : ops[j]? = some o := by simpa using ho
    simp only [yielded, ho', Option.bind_some, h]
    rw [Array.getD_eq_getD_getElem?] at hb
    cases ht : tmps[t]? with
    | none => rfl
    | some v => rw [ht] at hb; simp only [Option.getD_some] at hb; simp [hb, undef]
  · cases h

theorem VR.of_undef {φ : Phi} {H : Heap} {v : Value} (h : VR φ H undef v) : v = undef := by
  unfold undef at h ⊢
  cases h with
  | tuple xs xs' hx _ =>
    have : xs'.size = 0 := by rw [← hx]; rfl
    rw [Array.eq_empty_of_size_eq_zero this]

/-- The model's own step of such an operation. -/
theorem GStep.wpOp {P : Program} {ops : Array Oper} {o : Oper} {fr : Frm} {H : Heap} {v : Value} {H' : Heap} (h : GStep P ops.toList o fr H v H') {φ : Phi} {w : World} {a : Act}
    {next : Act → World → Prop} {Q : Exit → Act → World → Prop} (s : Sim φ H w) (hx : ∀ x, x ∈ o.op.operands.toList → VR φ H (aev fr x) (a.eval x))
    (hg : ∀ j want t, o.guard = some (j, want) → guardTmp ops.toList j = some t → VR φ H (fr t) (a.tmps.getD t undef))
    (hn : ∀ φ' w' cv, Ext φ H w φ' H' w' → VR φ' H' v cv → next (a.put o.dst cv) w') :
    if Region.wanted o (yielded ops a.tmps) then o.wp P a w next Q ∨ (o.asks P a w ∧ LetsOut Q) else next (a.put o.dst undef) w := by
  rcases h with ⟨hs, hg'⟩ | ⟨rfl, rfl, j, want, t, h1, h2, ⟨b, h3, h4⟩ | h3⟩
  · have hw : Region.wanted o (yielded ops a.tmps) = true := by
      rcases hg' with hg' | ⟨j, want, t, h1, h2, h3⟩
      · simp [Region.wanted, hg']
      · have := hg j want t h1 h2
        rw [h3] at this
        simp [Region.wanted, h1, yielded_eq h2 this.of_bool]
    rw [if_pos hw]
    exact .inl (hs φ w a next Q s hx hn)
  · have := hg j want t h1 h2
    rw [h3] at this
    have hw : ¬ Region.wanted o (yielded ops a.tmps) = true := by
      simp only [Region.wanted, h1, yielded_eq h2 this.of_bool]
      intro e
      have : b = want := by simpa using e
      rw [this] at h4
      simp at h4
    rw [if_neg hw]
    exact hn φ w undef (.refl s) undef_VR
  · have := hg j want t h1 h2
    rw [h3] at this
    have hw : ¬ Region.wanted o (yielded ops a.tmps) = true := by
      simp only [Region.wanted, h1, yielded_none h2 this.of_undef]
      simp
    rw [if_neg hw]
    exact hn φ w undef (.refl s) undef_VR

theorem denOps_sound {P : Program} {ops : Array Oper} {K : Frm → Heap → Prop} (n : Nat) : ∀ (l : List Oper) (fr : Frm) (H : Heap), denOps P ops.toList l K fr H → dstsOk n l = true →
    ∃ fr' H', K fr' H' ∧ (∀ t, opsDst l t = false → fr' t = fr t) ∧ ∀ (φ : Phi) (w : World) (a : Act), Sim φ H w → FR φ H fr a.tmps → a.tmps.size = n → a.defers = [] →
      wpList P ops (fun e' a' w' => e' = .normal ∧ a'.defers = [] ∧ a'.tmps.size = n ∧ ∃ φ', Ext φ H w φ' H' w' ∧ FR φ' H' fr' a'.tmps) l a w
  | [], fr, H, h, _ => ⟨fr, H, h, fun _ _ => rfl, fun φ w a s f hn hd => ⟨rfl, hd, hn, φ, .refl s, f⟩⟩
  | o :: rest, fr, H, h, hdst => by
    simp only [denOps] at h
    obtain ⟨v, H1, hk, hs⟩ := denGuarded_sound h
    have hd1 : dstsOk n rest = true := by simp only [dstsOk, List.all_cons, Bool.and_eq_true] at hdst ⊢; exact hdst.2
    obtain ⟨fr', H', hK, ha, hr⟩ := denOps_sound n rest _ _ hk hd1
    refine ⟨fr', H', hK, fun t ht => ?_, fun φ w a s f hn hd => ?_⟩
    · simp only [opsDst, List.any_cons, Bool.or_eq_false_iff] at ht
      rw [ha t ht.2]
      exact Frm.put_ne ht.1
    unfold wpList
    refine hs.wpOp s (fun x _ => f.eval x) (fun j want t _ _ => f t) fun φ1 w1 cv x1 r1 => ?_
    have f1 : FR φ1 H1 (fr.put o.dst v) (a.put o.dst cv).tmps :=
      FR.put (fun t => (f t).ext x1) r1 (fun t ht => by rw [hn]; exact dstsOk_spec hdst (by simp) t ht)
    have := hr φ1 w1 (a.put o.dst cv) x1.sim f1 (by rw [put_size]; exact hn) (by rw [put_defers]; exact hd)
    have mono : ∀ (l : List Oper) (a : Act) (w : World) (Q Q' : Exit → Act → World → Prop), (∀ e a w, Q e a w → Q' e a w) → wpList P ops Q l a w → wpList P ops Q' l a w := by
      intro l
      induction l with
      | nil => intro a w Q Q' hq h; exact hq _ _ _ h
      | cons o l ih =>
        intro a w Q Q' hq h
        unfold wpList at h ⊢
        split
        · rename_i hw
          rw [if_pos hw] at h
          rcases h with h | ⟨h1, a0, w0, h2⟩
          · left
            unfold Oper.wp at h ⊢
            generalize (execOp a.eval o).run P w = r at h ⊢
            cases r with
            | ok n w' =>
              cases n <;> simp only [Oper.upon] at h ⊢ <;>
                first
                  | exact ih _ _ _ _ hq h
                  | exact Calls.mono h (fun e w'' he => by cases e <;> first | exact ih _ _ _ _ hq he | exact hq _ _ _ he | exact he.imp fun a h => h.imp fun w h => hq _ _ _ h)
                  | exact Rows.mono h (fun _ _ he => ih _ _ _ _ hq he)
                  | exact h
            | halt x w' => cases x <;> simp only [Oper.upon] at h ⊢ <;> first | exact hq _ _ _ h | exact h
          · exact .inr ⟨h1, a0, w0, hq _ _ _ h2⟩
        · rename_i hw
          rw [if_neg hw] at h
          exact ih _ _ _ _ hq h
    refine mono _ _ _ _ _ ?_ this
    rintro e a' w' ⟨h1, h2, h3, φ', x2, f2⟩
    exact ⟨h1, h2, h3, φ', x1.trans x2, f2⟩

end
end Go.Ab
/-! Regions whose operations may come in any order that their edges allow: what each operation needs of the others. -/
namespace Go.Ab
variable {P : Program}

variable {ce : Bool}

/-- Operations that neither read nor write memory. -/
def isPure (P : Program) : Op → Bool
  | .convert _ dst _ => match P.underlying dst with | some (.int _) => true | _ => false
  | .move _ | .assign _ | .pick .. | .binOp .. | .unOp .. | .nilCheck _ | .fieldAddr .. | .field .. | .indexAddr .. | .index .. | .extract .. | .makeFunc .. | .build .. => true
  | .call c => match c.callee with | .builtin .len | .builtin .cap | .builtin .max | .builtin .min => true | _ => false
  | _ => false

/-- Operations that write memory that was there; calls among them, if so told. -/
def isE (ce : Bool) : Op → Bool
  | .store .. => true
  | .call c => match c.callee with | .builtin .len | .builtin .cap | .builtin .max | .builtin .min => false | .builtin _ => true | _ => ce
  | _ => false

theorem isE_pure {o : Op} (h : isE ce o = true) : isPure P o = false := by
  cases o <;> first | rfl | (simp [isE] at h; done) | skip
  rename_i c
  simp only [isE, isPure] at h ⊢
  cases hc : c.callee with
  | value f => rfl
  | invoke r m => rfl
  | builtin b => rw [hc] at h; cases b <;> first | rfl | (simp at h; done)

def isCallV : Op → Bool
  | .call c => match c.callee with | .value _ => true | _ => false
  | _ => false

theorem isCallV_E {o : Op} (h : isCallV o = true) : isE ce o = ce := by
  cases o <;> first | (cases h; done) | skip
  rename_i c
  simp only [isCallV] at h
  simp only [isE]
  cases hc : c.callee <;> rw [hc] at h <;> first | (cases h; done) | rfl

theorem isCallV_no {o : Op} (hE : isE ce o = false) (hc : (isCallV o && !ce) = false) : isCallV o = false := by
  cases h : isCallV o with
  | false => rfl
  | true =>
    rw [isCallV_E h] at hE
    subst hE
    rw [h] at hc
    cases hc

section
variable {P : Program} {o : Oper} {ev : Operand → Value} {k : Post} {H : Heap}

theorem denOp_pure (hp : isPure P o.op = true) (h : denOp P o ev k H) : ∃ v, k v H ∧ ∀ H2 k2, k2 v H2 → denOp P o ev k2 H2 := by
  unfold denOp at h ⊢
  split at h
  · exact ⟨_, h, fun _ _ h => h⟩
  · exact ⟨_, h, fun _ _ h => h⟩
  · unfold W.pick at h ⊢
    split at h
    · exact ⟨_, h, fun _ _ h => h⟩
    · exact h.elim
  · unfold denBin at h ⊢
    split at h
    · unfold W.eqNilI at h ⊢
      split at h
      · split at h
        · rename_i hv
          exact ⟨_, h, fun _ _ h => by first | exact h | (simp only [hv]; exact h)⟩
        · exact h.elim
      · split at h
        · rename_i hv
          exact ⟨_, h, fun _ _ h => by first | exact h | (simp only [hv]; exact h)⟩
        · exact h.elim
      · exact h.elim
    · unfold W.eqNilR at h ⊢
      split at h
      · split at h
        · rename_i hv
          exact ⟨_, h, fun _ _ h => by first | exact h | (simp only [hv]; exact h)⟩
        · exact h.elim
      · exact h.elim
    · unfold W.eqBool at h ⊢
      split at h
      · split at h
        · rename_i hv
          exact ⟨_, h, fun _ _ h => by first | exact h | (simp only [hv]; exact h)⟩
        · exact h.elim
      · exact h.elim
    · split at h
      · rename_i hpt
        unfold W.eqPair at h ⊢
        split at h
        · rename_i xs ys e1 e2
          split at h
          · rename_i a b c d hxs hys
            obtain ⟨hw, h⟩ := h
            split at h
            · rename_i v hv
              refine ⟨v, h, fun _ _ h => ?_⟩
              first
                | exact ⟨hw, h⟩
                | exact ⟨hw, by simp only [hv]; exact h⟩
                | exact ⟨hw, by rw [hv]; exact h⟩
            · exact h.elim
          · exact h.elim
        · exact h.elim
      · rename_i hpt
        unfold W.bin at h ⊢
        split at h
        · rename_i hv
          exact ⟨_, h, fun _ _ h => by first | exact h | (simp only [hv]; exact h)⟩
        · exact h.elim
    · unfold W.bin at h ⊢
      split at h
      · rename_i hv
        exact ⟨_, h, fun _ _ h => by first | exact h | (simp only [hv]; exact h)⟩
      · exact h.elim
  · unfold W.un at h ⊢
    split at h
    · rename_i hv
      exact ⟨_, h, fun _ _ h => by first | exact h | (simp only [hv]; exact h)⟩
    · exact h.elim
  · split at h
    · rename_i hs hd
      unfold W.conv at h
      split at h
      · rename_i hq
        exact ⟨_, h, fun _ _ h => by first | exact h | (simp only [W.conv, hq]; exact h)⟩
      · exact h.elim
    · simp [*, isPure] at hp
    · exact h.elim
  · rename_i e; rw [e] at hp; cases hp
  · rename_i e; rw [e] at hp; cases hp
  · rename_i e; rw [e] at hp; cases hp
  · rename_i e; rw [e] at hp; cases hp
  · unfold W.nilCheck at h ⊢
    split at h
    · exact ⟨_, h, fun _ _ h => h⟩
    · exact h.elim
  · split at h
    · split at h
      · rename_i hf
        split at h
        · rename_i hi
          split at h
          · rename_i hb
            unfold W.fieldAddr at h
            split at h
            · rename_i hq
              exact ⟨_, h, fun _ _ h => by first | exact h | (simp only [W.fieldAddr, hq]; exact h)⟩
            · exact h.elim
          · exact h.elim
        · exact h.elim
      · exact h.elim
    · exact h.elim
  · split at h
    · split at h
      · rename_i hf
        split at h
        · rename_i h1
          unfold W.field at h
          split at h
          · rename_i hq
            split at h
            · rename_i hv
              exact ⟨_, h, fun _ _ h => by first | exact h | (simp only [W.field, hq, hv]; exact h)⟩
            · exact h.elim
          · exact h.elim
        · rename_i h1 h2
          unfold W.fieldN at h
          split at h
          · rename_i hq
            exact ⟨_, h, fun _ _ h => by first | exact h | (simp only [W.fieldN, hq]; exact h)⟩
          · exact h.elim
        · exact h.elim
      · exact h.elim
    · exact h.elim
  · split at h
    · split at h
      · rename_i hi
        unfold W.indexAddr at h
        split at h
        · rename_i q1 q2
          obtain ⟨g1, g2, h⟩ := h
          exact ⟨_, h, fun _ _ h => by first | exact ⟨g1, g2, h⟩ | (simp only [W.indexAddr, q1, q2]; exact ⟨g1, g2, h⟩)⟩
        · exact h.elim
      · exact h.elim
    · split at h
      · rename_i hi
        unfold W.indexArr at h
        split at h
        · rename_i q1 q2
          obtain ⟨g1, g2, h⟩ := h
          exact ⟨_, h, fun _ _ h => by first | exact ⟨g1, g2, h⟩ | (simp only [W.indexArr, q1, q2]; exact ⟨g1, g2, h⟩)⟩
        · exact h.elim
      · exact h.elim
    · exact h.elim
  · split at h
    · unfold W.indexStr at h
      split at h
      · rename_i q1 q2
        obtain ⟨g1, h⟩ := h
        split at h
        · rename_i hb
          exact ⟨_, h, fun _ _ h => by first | exact ⟨g1, h⟩ | (simp only [W.indexStr, q1, q2, hb]; exact ⟨g1, h⟩)⟩
        · exact h.elim
      · exact h.elim
    · exact h.elim
  · rename_i e; rw [e] at hp; cases hp
  · unfold W.extract at h ⊢
    split at h
    · split at h
      · rename_i hv
        exact ⟨_, h, fun _ _ h => by first | exact h | (simp only [hv]; exact h)⟩
      · exact h.elim
    · exact h.elim
  · exact ⟨_, h, fun _ _ h => h⟩
  · rename_i e; rw [e] at hp; cases hp
  · split at h
    · rename_i hi
      split at h
      · rename_i hz
        split at h
        · rename_i hb
          unfold W.build at h
          split at h
          · rename_i hc
            exact ⟨_, h, fun _ _ h => by first | exact h | (simp only [W.build, hc]; exact h)⟩
          · exact h.elim
        · exact h.elim
      · exact h.elim
    · exact h.elim
  · rename_i e; rw [e] at hp; cases hp
  · rename_i c e
    rw [e] at hp
    simp only [isPure] at hp
    split at h
    · rename_i e1; rw [e1] at hp; cases hp
    · split at h
      · unfold W.len at h ⊢
        split at h
        · rename_i hq
          exact ⟨_, h, fun _ _ h => by first | exact h | (simp only [hq]; exact h)⟩
        · exact h.elim
      · unfold W.lenStr at h ⊢
        split at h
        · rename_i hq
          exact ⟨_, h, fun _ _ h => by first | exact h | (simp only [hq]; exact h)⟩
        · exact h.elim
      · exact h.elim
    · split at h
      · unfold W.cap at h ⊢
        split at h
        · rename_i hq
          obtain ⟨h0, h⟩ := h
          exact ⟨_, h, fun _ _ h => by first | exact ⟨h0, h⟩ | (simp only [hq]; exact ⟨h0, h⟩)⟩
        · exact h.elim
      · exact h.elim
    · unfold W.max2 at h ⊢
      split at h
      · rename_i q1 q2
        exact ⟨_, h, fun _ _ h => by first | exact h | (simp only [q1, q2]; exact h)⟩
      · exact h.elim
    · unfold W.min2 at h ⊢
      split at h
      · rename_i q1 q2
        exact ⟨_, h, fun _ _ h => by first | exact h | (simp only [q1, q2]; exact h)⟩
      · exact h.elim
    · rename_i e1 e2 e3; rw [e1] at hp; cases hp
    · rename_i e1 e2 e3; rw [e1] at hp; cases hp
    · rename_i e1 e2 e3; rw [e1] at hp; cases hp
    · exact h.elim
  · exact h.elim


/-- What reads memory, or makes some, leaves what was. -/
theorem denOp_calm (h1 : isPure P o.op = false) (h2 : isE ce o.op = false) (h3 : isCallV o.op = false) (h : denOp P o ev k H) : denOp P o ev (fun v H' => H.Le H' ∧ k v H') H := by
  have al : ∀ (cells : List Value) (ty : TypeId) (esz : Nat), H.Le (H.alloc cells ty esz) := fun cells ty esz =>
    ⟨by simp [Heap.alloc], fun b hb => by simp only [Heap.alloc]; rw [if_neg (by omega)]⟩
  unfold denOp at h ⊢
  split at h
  · rename_i e; rw [e] at h1; cases h1
  · rename_i e; rw [e] at h1; cases h1
  · rename_i e; rw [e] at h1; cases h1
  · rename_i e; rw [e] at h1; cases h1
  · rename_i e; rw [e] at h1; cases h1
  · split at h
    · unfold W.conv at h ⊢
      split at h
      · exact ⟨.refl _, h⟩
      · exact h
    · split at h
      · unfold W.toStr at h ⊢
        split at h
        · exact ⟨.refl _, h⟩
        · split at h
          · rename_i hq; simp only [hq]; exact ⟨.refl _, h⟩
          · exact h.elim
        · exact h
      · exact h
    · exact h
  · split at h
    · split at h
      · split at h
        · exact ⟨al _ _ _, h⟩
        · exact h
      · exact h
    · exact h
  · unfold W.box at h ⊢
    split at h
    · exact ⟨al _ _ _, h⟩
    · exact ⟨h.1, al _ _ _, h.2⟩
  · split at h
    · unfold W.get at h ⊢
      split at h
      · split at h
        · exact ⟨.refl _, h⟩
        · exact h
      · exact h
    · unfold W.getN at h ⊢
      split at h
      · split at h
        · exact ⟨.refl _, h⟩
        · exact h
      · exact h
    · exact h
  · rename_i e; rw [e] at h2; cases h2
  · rename_i e; rw [e] at h1; cases h1
  · rename_i e; rw [e] at h1; cases h1
  · rename_i e; rw [e] at h1; cases h1
  · rename_i e; rw [e] at h1; cases h1
  · rename_i e; rw [e] at h1; cases h1
  · split at h
    · split at h
      · unfold W.slice at h ⊢
        split at h
        · split at h
          · obtain ⟨g1, g2, g3, h⟩ := h
            refine ⟨g1, g2, g3, ?_⟩
            split at h
            · exact ⟨.refl _, h⟩
            · split at h
              · rename_i c1
                rw [if_pos c1]
                split at h
                · rename_i c2; rw [if_pos c2]; exact ⟨.refl _, h⟩
                · rename_i c2; rw [if_neg c2]; exact ⟨.refl _, h⟩
              · rename_i c1
                rw [if_neg c1]
                split at h
                · rename_i c2; rw [if_pos c2]; exact ⟨.refl _, h⟩
                · rename_i c2; rw [if_neg c2]; exact ⟨h.1, .refl _, h.2⟩
          · exact h
        · exact h
      · exact h
    · split at h
      · unfold W.slice3 at h ⊢
        split at h
        · obtain ⟨g1, g2, g3, g4, h⟩ := h
          refine ⟨g1, g2, g3, g4, ?_⟩
          split at h
          · exact ⟨h.1, .refl _, h.2⟩
          · split at h
            · rename_i c1; rw [if_pos c1]; exact ⟨.refl _, h⟩
            · rename_i c1; rw [if_neg c1]; exact ⟨.refl _, h⟩
        · exact h
      · exact h
    · unfold W.sliceStr at h ⊢
      split at h
      · split at h
        · obtain ⟨g1, g2, g3, h⟩ := h
          exact ⟨g1, g2, g3, .refl _, h⟩
        · exact h
      · exact h
    · exact h
  · rename_i e; rw [e] at h1; cases h1
  · rename_i e; rw [e] at h1; cases h1
  · split at h
    · split at h
      · split at h
        · split at h
          · unfold W.make at h ⊢
            split at h
            · obtain ⟨g1, g2, g3, h⟩ := h
              exact ⟨g1, g2, g3, al _ _ _, h⟩
            · exact h
          · exact h
        · exact h
      · exact h
    · exact h
  · rename_i e; rw [e] at h1; cases h1
  · split at h
    · split at h
      · split at h
        · split at h
          · unfold W.lit at h ⊢
            split at h
            · exact ⟨al _ _ _, h⟩
            · exact h
          · exact h
        · exact h
      · exact h
    · exact h
  · rename_i c e
    rw [e] at h2 h3
    simp only [isE, isCallV] at h2 h3
    cases hc : c.callee with
    | value f => rw [hc] at h3; cases h3
    | builtin b => rw [e] at h1; simp only [isPure] at h1; rw [hc] at h1 h2; cases b <;> first | (simp at h1; done) | (simp at h2; done)
    | invoke r m => simp [hc] at h
  · exact h.elim


/-- A load, or a slice of what is there, that no guard keeps. -/
def isLd (o : Oper) : Bool := match o.guard with | none => (match o.op with | .load .. => true | .slice _ _ _ _ none => true | _ => false) | some _ => false

theorem isLd_spec (h : isLd o = true) : o.guard = none ∧ ((∃ t p, o.op = .load t p) ∨ ∃ t x lo hi, o.op = .slice t x lo hi none) := by
  unfold isLd at h
  split at h
  · rename_i hg
    split at h
    · rename_i t p e; exact ⟨hg, .inl ⟨t, p, e⟩⟩
    · rename_i t x lo hi e; exact ⟨hg, .inr ⟨t, x, lo, hi, e⟩⟩
    · cases h
  · cases h

theorem isLd_pure (h : isLd o = true) : isPure P o.op = false := by
  obtain ⟨_, ⟨t, p, e⟩ | ⟨t, x, lo, hi, e⟩⟩ := isLd_spec h <;> rw [e] <;> rfl
theorem isLd_E (h : isLd o = true) : isE ce o.op = false := by
  obtain ⟨_, ⟨t, p, e⟩ | ⟨t, x, lo, hi, e⟩⟩ := isLd_spec h <;> rw [e] <;> rfl
theorem isLd_call (h : isLd o = true) : isCallV o.op = false := by
  obtain ⟨_, ⟨t, p, e⟩ | ⟨t, x, lo, hi, e⟩⟩ := isLd_spec h <;> rw [e] <;> rfl

/-- A slice's value hangs on the blocks that are there alone. -/
theorem W.slice_val {sz : Nat} {x : Value} {lo hi : Option Value} (h : W.slice sz x lo hi H k) : ∃ v, k v H ∧ ∀ H2 : Heap, (∀ b kb, H.blk b = some kb → H2.blk b = some kb) → W.slice sz x lo hi H2 (fun v' H' => v' = v ∧ H' = H2) := by
  unfold W.slice at h ⊢
  split at h
  · rename_i base n e
    split at h
    · rename_i l hh hl hhi
      obtain ⟨h1, h2, h3, h⟩ := h
      simp only [hl, hhi]
      split at h
      · exact ⟨_, h, fun _ _ => ⟨h1, h2, h3, by simp⟩⟩
      · rename_i a
        by_cases g1 : l.toNat = e / 2
        · rw [if_pos g1] at h
          by_cases g2 : e % 2 = 0
          · rw [if_pos g2] at h
            exact ⟨_, h, fun _ _ => ⟨h1, h2, h3, by simp only [if_pos g1, if_pos g2]; exact ⟨trivial, trivial⟩⟩⟩
          · rw [if_neg g2] at h
            exact ⟨_, h, fun _ _ => ⟨h1, h2, h3, by simp only [if_pos g1, if_neg g2]; exact ⟨trivial, trivial⟩⟩⟩
        · rw [if_neg g1] at h
          by_cases g2 : l.toNat = 0
          · rw [if_pos g2] at h
            exact ⟨_, h, fun _ _ => ⟨h1, h2, h3, by simp only [if_neg g1, if_pos g2]; exact ⟨trivial, trivial⟩⟩⟩
          · rw [if_neg g2] at h
            refine ⟨_, h.2, fun H2 up => ⟨h1, h2, h3, ?_⟩⟩
            simp only [if_neg g1, if_neg g2]
            refine ⟨?_, trivial, trivial⟩
            have h0 := h.1
            split at h0
            · rename_i kb hk
              rw [up _ _ hk]
              exact h0
            · exact h0.elim
    · exact h.elim
  · exact h.elim

theorem W.sliceStr_val {x : Value} {lo hi : Option Value} (h : W.sliceStr x lo hi H k) : ∃ v, k v H ∧ ∀ H2 : Heap, W.sliceStr x lo hi H2 (fun v' H' => v' = v ∧ H' = H2) := by
  unfold W.sliceStr at h ⊢
  split at h
  · split at h
    · rename_i l hh hl hhi
      obtain ⟨h1, h2, h3, h⟩ := h
      simp only [hl, hhi]
      exact ⟨_, h, fun _ => ⟨h1, h2, h3, by simp⟩⟩
    · exact h.elim
  · exact h.elim

theorem denOp_slice {t : TypeId} {x : Operand} {lo hi : Option Operand} (ho : o.op = .slice t x lo hi none) (h : denOp P o ev k H) : ∃ v, k v H ∧ ∀ H2 : Heap, (∀ b kb, H.blk b = some kb → H2.blk b = some kb) → denOp P o ev (fun v' H' => v' = v ∧ H' = H2) H2 := by
  unfold denOp at h ⊢
  rw [ho] at h ⊢
  simp only at h ⊢
  split at h
  · split at h
    · exact W.slice_val h
    · exact h.elim
  · rename_i e; cases e
  · obtain ⟨v, h1, h2⟩ := W.sliceStr_val h
    exact ⟨v, h1, fun H2 _ => h2 H2⟩
  · exact h.elim

theorem denOp_ld1 (hl : isLd o = true) (h : denOp P o ev k H) : ∃ v, k v H ∧ denOp P o ev (fun v' H' => v' = v ∧ H' = H) H := by
  obtain ⟨_, ⟨t, p, e⟩ | ⟨t, x, lo, hi, e⟩⟩ := isLd_spec hl
  case inr =>
    obtain ⟨v, h1, h2⟩ := denOp_slice e h
    exact ⟨v, h1, h2 H fun _ _ h => h⟩
  unfold denOp at h ⊢
  rw [e] at h ⊢
  simp only at h ⊢
  split at h
  · unfold W.get at h ⊢
    split at h
    · split at h
      · rename_i hv
        exact ⟨_, h, by simp only [hv]; exact ⟨trivial, trivial⟩⟩
      · exact h.elim
    · exact h.elim
  · unfold W.getN at h ⊢
    split at h
    · split at h
      · rename_i hv
        exact ⟨_, h, by simp only [hv]; exact ⟨trivial, trivial⟩⟩
      · exact h.elim
    · exact h.elim
  · exact h.elim

/-- A list of elements written out, that no guard keeps. -/
def isLit (o : Oper) : Bool := match o.guard with | none => (match o.op with | .buildSlice .. => true | _ => false) | some _ => false

theorem isLit_spec (h : isLit o = true) : o.guard = none ∧ ∃ t n ps, o.op = .buildSlice t n ps := by
  unfold isLit at h
  split at h
  · rename_i hg
    split at h
    · rename_i t n p e; exact ⟨hg, t, n, p, e⟩
    · cases h
  · cases h

theorem isLit_pure (h : isLit o = true) : isPure P o.op = false := by obtain ⟨_, t, n, p, e⟩ := isLit_spec h; rw [e]; rfl
theorem isLit_E (h : isLit o = true) : isE ce o.op = false := by obtain ⟨_, t, n, p, e⟩ := isLit_spec h; rw [e]; rfl
theorem isLit_call (h : isLit o = true) : isCallV o.op = false := by obtain ⟨_, t, n, p, e⟩ := isLit_spec h; rw [e]; rfl
theorem isLit_ld (h : isLit o = true) : isLd o = false := by obtain ⟨g, t, n, p, e⟩ := isLit_spec h; unfold isLd; rw [g, e]

/-- What such a list comes to, at any heap. -/
theorem denOp_lit (hl : isLit o = true) (h : denOp P o ev k H) : ∃ (n esz : Nat) (ty : TypeId) (cells : List Value) (zc : List Value) (pa : List (Nat × Nat × Value)), zc.all plainV = true ∧ (∀ p ∈ pa, ∃ x, x ∈ o.op.operands.toList ∧ p.2.2 = ev x) ∧ fillA (reps n zc) pa = some cells ∧
    k (.slice (some ⟨H.next, 0, none⟩) n (2 * n)) (H.alloc cells ty esz) ∧
    ∀ (H2 : Heap) (k2 : Post), k2 (.slice (some ⟨H2.next, 0, none⟩) n (2 * n)) (H2.alloc cells ty esz) → denOp P o ev k2 H2 := by
  obtain ⟨_, t, n, ps, e⟩ := isLit_spec hl
  unfold denOp at h
  rw [e] at h
  simp only at h
  split at h
  · split at h
    · split at h
      · split at h
        · rename_i e0 hu _ i hi _ z hz _ hb
          unfold W.lit at h
          split at h
          · rename_i cells hc
            simp only [Bool.and_eq_true] at hb
            refine ⟨n, z.cells.toList.length, _, cells, z.cells.toList, _, hb.1.1, fun p hp => ?_, hc, h, fun H2 k2 h2 => ?_⟩
            · obtain ⟨q, hq, rfl⟩ := List.mem_map.1 hp
              refine ⟨q.2, ?_, rfl⟩
              rw [e]
              simp only [Op.operands, List.mem_map]
              exact ⟨q, hq, rfl⟩
            · unfold denOp
              rw [e]
              simp only [hu, hi, hz, hb, Bool.and_self, W.lit, hc]
              exact h2
          · exact h.elim
        · exact h.elim
      · exact h.elim
    · exact h.elim
  · exact h.elim

theorem denOp_lit1 (hl : isLit o = true) (h : denOp P o ev k H) : ∃ v H', k v H' ∧ denOp P o ev (fun v' H2 => v' = v ∧ H2 = H') H := by
  obtain ⟨_, _, _, _, _, _, _, _, _, h1, h2⟩ := denOp_lit hl h
  exact ⟨_, _, h1, h2 H _ ⟨rfl, rfl⟩⟩

/-- What is loaded still is there when more has been made. -/
theorem denOp_ld_up (hl : isLd o = true) {H2 : Heap} (wf : ∀ b, H.blk b ≠ none → b < H.next) (l : H.Le H2) {v : Value} (h : denOp P o ev (fun v' H' => v' = v ∧ H' = H) H) : denOp P o ev (fun v' H' => v' = v ∧ H' = H2) H2 := by
  obtain ⟨_, hop⟩ := isLd_spec hl
  have up : ∀ b k, H.blk b = some k → H2.blk b = some k := fun b k hk => by rw [l.blk b (wf b (by rw [hk]; simp))]; exact hk
  obtain ⟨t, p, e⟩ | ⟨t, x, lo, hi, e⟩ := hop
  case inr =>
    obtain ⟨v1, ⟨rfl, _⟩, h2⟩ := denOp_slice e h
    exact h2 H2 up
  unfold denOp at h ⊢
  rw [e] at h ⊢
  simp only at h ⊢
  split at h
  · unfold W.get at h ⊢
    split at h
    · rename_i a _
      split at h
      · rename_i v1 hv
        have : H2.get a = some v1 := by
          unfold Heap.get at hv ⊢
          rw [Option.bind_eq_some_iff] at hv ⊢
          obtain ⟨kb, h1, h2⟩ := hv
          exact ⟨kb, up _ _ h1, h2⟩
        simp only [this]
        simpa using h.1
      · exact h.elim
    · exact h.elim
  · rename_i i _ _
    unfold W.getN at h ⊢
    split at h
    · rename_i a _
      split at h
      · rename_i v1 hv
        have : H2.getN a i.size = some v1 := by
          unfold Heap.getN at hv ⊢
          rw [Option.bind_eq_some_iff] at hv ⊢
          obtain ⟨kb, h1, h2⟩ := hv
          exact ⟨kb, up _ _ h1, h2⟩
        simp only [this]
        simpa using h.1
      · exact h.elim
    · exact h.elim
  · exact h.elim

/-! ### The text of such a region: as of any other, but a call must leave what was -/

def denOpQ (ce : Bool) (P : Program) (o : Oper) (ev : Operand → Value) (k : Post) (H : Heap) : Prop :=
  match isCallV o.op && !ce with
  | true => denOp P o ev (fun v H' => H.Le H' ∧ k v H') H
  | false => denOp P o ev k H

def denGuardedQ (ce : Bool) (P : Program) (ops : List Oper) (o : Oper) (fr : Frm) (k : Post) (H : Heap) : Prop :=
  match o.guard with
  | none => denOpQ ce P o (aev fr) k H
  | some (j, want) =>
    match guardTmp ops j with
    | some t => W.guarded (fr t) want (fun H k => denOpQ ce P o (aev fr) k H) H k
    | none => False

def denOpsQ (ce : Bool) (P : Program) (ops : List Oper) : List Oper → (Frm → Heap → Prop) → Frm → Heap → Prop
  | [], K, fr, H => K fr H
  | o :: rest, K, fr, H => denGuardedQ ce P ops o fr (fun v H' => denOpsQ ce P ops rest K (fr.put o.dst v) H') H

/-- A call that leaves what was. -/
def W.callQ (P : Program) (f : Value) (args : Array Value) (H : Heap) (k : Post) : Prop := W.call P f args H (fun v H' => H.Le H' ∧ k v H')

/-- What one operation of the region does, in the text's order. -/
structure RunAt (ce : Bool) (P : Program) (ops : List Oper) (o : Oper) (fr : Frm) (H : Heap) (v : Value) (H' : Heap) : Prop where
  g : GStep P ops o fr H v H'
  calm : isE ce o.op = false → H.Le H'
  pure : isPure P o.op = true → H' = H ∧ ∀ H2, GStep P ops o fr H2 v H2
  ld : isLd o = true → H' = H
  lds : isLd o = true → ∀ H2, H.Le H2 → (∀ b, H.blk b ≠ none → b < H.next) → denOp P o (aev fr) (fun v' H' => v' = v ∧ H' = H2) H2
  lit : isLit o = true → denOp P o (aev fr) (fun v' H2 => v' = v ∧ H2 = H') H

theorem denOpQ_sound (h : denOpQ ce P o ev k H) : ∃ v H', k v H' ∧ OpStep P o ev H v H' ∧ (isE ce o.op = false → H.Le H') ∧ (isPure P o.op = true → H' = H ∧ ∀ H2, OpStep P o ev H2 v H2) ∧ (isLd o = true → H' = H ∧ ∀ H2, H.Le H2 → (∀ b, H.blk b ≠ none → b < H.next) → denOp P o ev (fun v' H' => v' = v ∧ H' = H2) H2) ∧ (isLit o = true → denOp P o ev (fun v' H2 => v' = v ∧ H2 = H') H) := by
  unfold denOpQ at h
  split at h
  · rename_i hc
    obtain ⟨v, H', ⟨hle, hk⟩, hs⟩ := denOp_sound h
    refine ⟨v, H', hk, hs, fun _ => hle, fun hp => ?_, fun hl => (by rw [isLd_call hl] at hc; cases hc), fun hl => by rw [isLit_call hl] at hc; cases hc⟩
    cases ho : o.op <;> rw [ho] at hc hp <;> simp [isCallV, isPure] at hc hp
    rename_i c
    cases hcc : c.callee <;> rw [hcc] at hc hp <;> simp at hc hp
  · rename_i hc
    cases hp : isPure P o.op with
    | true =>
      obtain ⟨v, hk, hall⟩ := denOp_pure hp h
      have at2 : ∀ H2, OpStep P o ev H2 v H2 := fun H2 => by
        obtain ⟨v', H', ⟨rfl, rfl⟩, hs⟩ := denOp_sound (hall H2 (fun v' H' => v' = v ∧ H' = H2) ⟨rfl, rfl⟩)
        exact hs
      exact ⟨v, H, hk, at2 H, fun _ => .refl _, fun _ => ⟨rfl, at2⟩, fun hl => (by rw [isLd_pure hl] at hp; cases hp), fun hl => by rw [isLit_pure hl] at hp; cases hp⟩
    | false =>
      cases hE : isE ce o.op with
      | true =>
        obtain ⟨v, H', hk, hs⟩ := denOp_sound h
        exact ⟨v, H', hk, hs, fun h => Bool.noConfusion h, fun h => Bool.noConfusion h, fun hl => (by rw [isLd_E hl] at hE; cases hE), fun hl => by rw [isLit_E hl] at hE; cases hE⟩
      | false =>
        cases hl : isLd o with
        | true =>
          obtain ⟨v, hk, hv⟩ := denOp_ld1 hl h
          obtain ⟨v', H', ⟨rfl, rfl⟩, hs⟩ := denOp_sound hv
          exact ⟨_, _, hk, hs, fun _ => .refl _, fun h => Bool.noConfusion h, fun _ => ⟨rfl, fun H2 l wf => denOp_ld_up hl wf l hv⟩, fun hi => by rw [isLit_ld hi] at hl; cases hl⟩
        | false =>
          cases hi : isLit o with
          | true =>
            obtain ⟨v, H', hk, hv⟩ := denOp_lit1 hi h
            obtain ⟨_, _, ⟨rfl, rfl⟩, hs⟩ := denOp_sound hv
            obtain ⟨_, _, ⟨hle, rfl, rfl⟩, _⟩ := denOp_sound (denOp_calm hp hE (isCallV_no hE hc) hv)
            exact ⟨_, _, hk, hs, fun _ => hle, fun h => Bool.noConfusion h, fun h => Bool.noConfusion h, fun _ => hv⟩
          | false =>
            obtain ⟨v, H', ⟨hle, hk⟩, hs⟩ := denOp_sound (denOp_calm hp hE (isCallV_no hE hc) h)
            exact ⟨v, H', hk, hs, fun _ => hle, fun h => Bool.noConfusion h, fun h => Bool.noConfusion h, fun h => Bool.noConfusion h⟩

theorem denGuardedQ_sound {ops : List Oper} {fr : Frm} (h : denGuardedQ ce P ops o fr k H) : ∃ v H', k v H' ∧ RunAt ce P ops o fr H v H' := by
  unfold denGuardedQ at h
  split at h
  · rename_i hg
    obtain ⟨v, H', hk, hs, h1, h2, h3, h4⟩ := denOpQ_sound h
    exact ⟨v, H', hk, .inl ⟨hs, .inl hg⟩, h1, fun hp => ⟨(h2 hp).1, fun H2 => .inl ⟨(h2 hp).2 H2, .inl hg⟩⟩, fun hl => (h3 hl).1, fun hl => (h3 hl).2, h4⟩
  · rename_i j want hg
    split at h
    · rename_i t ht
      unfold W.guarded at h
      split at h
      · rename_i b hb
        split at h
        · rename_i hw
          have hb' : fr t = .bool want := by rw [hb, beq_iff_eq.1 hw]
          obtain ⟨v, H', hk, hs, h1, h2, h3, h4⟩ := denOpQ_sound h
          exact ⟨v, H', hk, .inl ⟨hs, .inr ⟨j, want, t, hg, ht, hb'⟩⟩, h1, fun hp => ⟨(h2 hp).1, fun H2 => .inl ⟨(h2 hp).2 H2, .inr ⟨j, want, t, hg, ht, hb'⟩⟩⟩, fun hl => (h3 hl).1, fun hl => (h3 hl).2, h4⟩
        · rename_i hw
          exact ⟨_, _, h, .inr ⟨rfl, rfl, j, want, t, hg, ht, .inl ⟨b, hb, hw⟩⟩, fun _ => .refl _, fun _ => ⟨rfl, fun H2 => .inr ⟨rfl, rfl, j, want, t, hg, ht, .inl ⟨b, hb, hw⟩⟩⟩, fun _ => rfl, fun hl => (by rw [(isLd_spec hl).1] at hg; cases hg), fun hl => by rw [(isLit_spec hl).1] at hg; cases hg⟩
      · rename_i xs hb
        split at h
        · rename_i hz
          have hu : fr t = undef := by rw [hb, Array.eq_empty_of_size_eq_zero hz]; rfl
          exact ⟨_, _, h, .inr ⟨rfl, rfl, j, want, t, hg, ht, .inr hu⟩, fun _ => .refl _, fun _ => ⟨rfl, fun H2 => .inr ⟨rfl, rfl, j, want, t, hg, ht, .inr hu⟩⟩, fun _ => rfl, fun hl => (by rw [(isLd_spec hl).1] at hg; cases hg), fun hl => by rw [(isLit_spec hl).1] at hg; cases hg⟩
        · exact h.elim
      · exact h.elim
    · exact h.elim

/-- The whole run in the text's order: frames, heaps, values. -/
theorem denOpsQ_run {ops : List Oper} {K : Frm → Heap → Prop} : ∀ (l : List Oper) (m : Nat) (fr : Frm) (H : Heap), denOpsQ ce P ops l K fr H → (∀ i, l[i]? = ops[m + i]?) → m + l.length = ops.length →
    ∃ (F : Nat → Frm) (HH : Nat → Heap) (V : Nat → Value), F m = fr ∧ HH m = H ∧ K (F ops.length) (HH ops.length) ∧
      ∀ j o, m ≤ j → ops[j]? = some o → F (j + 1) = (F j).put o.dst (V j) ∧ RunAt ce P ops o (F j) (HH j) (V j) (HH (j + 1))
  | [], m, fr, H, h, _, hl => by
    simp only [List.length_nil, Nat.add_zero] at hl
    refine ⟨fun _ => fr, fun _ => H, fun _ => undef, rfl, rfl, h, fun j o hj ho => ?_⟩
    rw [List.getElem?_eq_none (by omega)] at ho
    cases ho
  | o :: rest, m, fr, H, h, hi, hl => by
    simp only [denOpsQ] at h
    obtain ⟨v, H1, hk, hr⟩ := denGuardedQ_sound h
    obtain ⟨F, HH, V, h1, h2, h3, h4⟩ := denOpsQ_run rest (m + 1) _ _ hk (fun i => by have := hi (i + 1); simpa [Nat.add_assoc, Nat.add_comm 1 i] using this) (by simp at hl; omega)
    have h0 : ops[m]? = some o := by simpa using (hi 0).symm
    refine ⟨fun j => if j = m then fr else F j, fun j => if j = m then H else HH j, fun j => if j = m then v else V j, by simp, by simp, ?_, fun j o' hj ho => ?_⟩
    · have : ¬ ops.length = m := by simp at hl; omega
      simpa [this] using h3
    · by_cases hjm : j = m
      · subst hjm
        rw [h0] at ho
        cases ho
        simp only [if_true, if_neg (Nat.succ_ne_self j)]
        rw [h1, h2]
        exact ⟨rfl, hr⟩
      · have := h4 j o' (by omega) ho
        simp only [if_neg hjm, if_neg (show ¬ j + 1 = m by omega)]
        exact this

/-! ### What must come ahead of what -/

def maskOf (acc : List Nat) (es : List Edge) (s : Nat) : Nat :=
  es.foldl (fun s e => match Region.binds .any e with | true => s ||| 2 ^ e.on ||| acc.getD e.on 0 | false => s) s

def masksOn (acc : List Nat) : List Oper → List Nat
  | [] => acc
  | o :: rest => masksOn (acc ++ [maskOf acc o.after.toList 0]) rest

def masks (ops : List Oper) : List Nat := masksOn [] ops

theorem maskOf_spec {L : Nat → Prop} {acc : List Nat} (hacc : ∀ m, L m → ∀ i, (acc.getD m 0).testBit i = true → L i) : ∀ (es : List Edge) (s : Nat), (∀ e ∈ es, Region.binds .any e = true → L e.on) →
    (∀ i, s.testBit i = true → L i) → ∀ i, (maskOf acc es s).testBit i = true → L i
  | [], s, _, hs, i, hi => hs i hi
  | e :: es, s, he, hs, i, hi => by
    simp only [maskOf, List.foldl_cons] at hi
    refine maskOf_spec hacc es _ (fun e' h' => he e' (List.mem_cons_of_mem _ h')) ?_ i hi
    intro i hi
    split at hi
    · rename_i hb
      simp only [Nat.testBit_or, Bool.or_eq_true] at hi
      rcases hi with (hi | hi) | hi
      · exact hs i hi
      · rw [Nat.testBit_two_pow] at hi
        have : e.on = i := by simpa using hi
        exact this ▸ he e List.mem_cons_self hb
      · exact hacc _ (he e List.mem_cons_self hb) i hi
    · exact hs i hi

theorem masksOn_spec {L : Nat → Prop} {ops : List Oper} (hL : ∀ j o, L j → ops[j]? = some o → ∀ e ∈ o.after.toList, Region.binds .any e = true → L e.on) :
    ∀ (rest : List Oper) (acc : List Nat), (∀ i, rest[i]? = ops[acc.length + i]?) → (∀ m, L m → ∀ i, (acc.getD m 0).testBit i = true → L i) →
      ∀ m, L m → ∀ i, ((masksOn acc rest).getD m 0).testBit i = true → L i
  | [], acc, _, hacc => hacc
  | o :: rest, acc, hr, hacc => by
    refine masksOn_spec hL rest _ (fun i => by have := hr (i + 1); simpa [Nat.add_assoc, Nat.add_comm 1 i] using this) ?_
    intro m hm i hi
    by_cases h : m < acc.length
    · rw [List.getD_eq_getElem?_getD, List.getElem?_append_left h, ← List.getD_eq_getElem?_getD] at hi
      exact hacc m hm i hi
    · rw [List.getD_eq_getElem?_getD, List.getElem?_append_right (by omega)] at hi
      by_cases h2 : m = acc.length
      · subst h2
        simp only [Nat.sub_self, List.getElem?_cons_zero, Option.getD_some] at hi
        refine maskOf_spec hacc _ 0 (fun e he hb => ?_) (fun i hi => by simp at hi) i hi
        have h0 := hr 0
        simp only [List.getElem?_cons_zero, Nat.add_zero] at h0
        exact hL acc.length o hm h0.symm e he hb
      · rw [List.getElem?_eq_none (by simp; omega)] at hi
        simp at hi

theorem masks_spec {L : Nat → Prop} {ops : List Oper} (hL : ∀ j o, L j → ops[j]? = some o → ∀ e ∈ o.after.toList, Region.binds .any e = true → L e.on) :
    ∀ m, L m → ∀ i, ((masks ops).getD m 0).testBit i = true → L i :=
  masksOn_spec hL ops [] (fun i => by simp) (fun m _ i hi => by simp at hi)

/-- Slots that an operation looks at. -/
def mentions (ops : List Oper) (o : Oper) : List Tmp :=
  (o.op.operands.toList.filterMap fun x => match x with | .tmp t => some t | _ => none) ++ (match o.guard with | some (j, _) => (match guardTmp ops j with | some t => [t] | none => []) | none => [])

def writesT (o : Oper) (t : Tmp) : Bool := match o.dst with | some d => Nat.beq d t | none => false

/-- Two operations that must keep their order. -/
def clash (P : Program) (ce : Bool) (ops : List Oper) (x y : Oper) : Bool :=
  (mentions ops y).any (writesT x) || (mentions ops x).any (writesT y) || (match y.dst with | some d => writesT x d | none => false) ||
  (isE ce x.op && !isPure P y.op) || (!isPure P x.op && isE ce y.op)

def orderOk (P : Program) (ce : Bool) (ops : List Oper) (ms : List Nat) : Bool :=
  (ops.zipIdx.all fun p => p.1.after.toList.all fun e => !Region.binds .any e || Nat.blt e.on p.2) &&
  (ops.zipIdx.all fun p => (ops.take p.2).zipIdx.all fun q => !clash P ce ops q.1 p.1 || (ms.getD p.2 0).testBit q.2)

def drawOk (P : Program) (ce : Bool) (ops : List Oper) : Bool := orderOk P ce ops (masks ops)

theorem drawOk_clash {ops : List Oper} (h : drawOk P ce ops = true) {i j : Nat} {oi oj : Oper} (hi : ops[i]? = some oi) (hj : ops[j]? = some oj) (hij : i < j) (hc : clash P ce ops oi oj = true) :
    ((masks ops).getD j 0).testBit i = true := by
  simp only [drawOk, orderOk, Bool.and_eq_true, List.all_eq_true] at h
  have := h.2 (oj, j) (by rw [List.mem_zipIdx_iff_getElem?]; exact hj)
  have := this (oi, i) (by rw [List.mem_zipIdx_iff_getElem?]; simp only [List.getElem?_take, if_pos hij]; exact hi)
  simpa [hc] using this

/-- The same, but a load may come behind a write that follows it in the text, or ahead of one that it follows. -/
def clashF (P : Program) (ce : Bool) (ops : List Oper) (x y : Oper) : Bool :=
  (mentions ops y).any (writesT x) || (mentions ops x).any (writesT y) || (match y.dst with | some d => writesT x d | none => false) ||
  (isE ce x.op && !(isPure P y.op || isLd y)) || (!(isPure P x.op || isLd x) && isE ce y.op)

theorem clashF_clash {ops : List Oper} {x y : Oper} (h : clashF P ce ops x y = true) : clash P ce ops x y = true := by
  unfold clashF at h
  unfold clash
  cases h1 : (mentions ops y).any (writesT x) <;> cases h2 : (mentions ops x).any (writesT y) <;> cases h3 : (match y.dst with | some d => writesT x d | none => false) <;> cases h4 : (isE ce x.op && !isPure P y.op) <;>
    simp only [h1, h2, h3, h4, Bool.or_true, Bool.true_or, Bool.or_false, Bool.false_or] at h ⊢
  cases hp : isPure P x.op <;> cases hl : isLd x <;> cases hp2 : isPure P y.op <;> cases hl2 : isLd y <;> cases hE : isE ce x.op <;> cases hE2 : isE ce y.op <;> simp_all

def orderOkF (P : Program) (ce : Bool) (ops : List Oper) (ms : List Nat) : Bool :=
  (ops.zipIdx.all fun p => p.1.after.toList.all fun e => !Region.binds .any e || Nat.blt e.on p.2) &&
  (ops.zipIdx.all fun p => (ops.take p.2).zipIdx.all fun q => !clashF P ce ops q.1 p.1 || (ms.getD p.2 0).testBit q.2)

def drawOkF (P : Program) (ce : Bool) (ops : List Oper) : Bool := orderOkF P ce ops (masks ops)

theorem drawOkF_edge {ops : List Oper} (h : drawOkF P ce ops = true) {j : Nat} {o : Oper} (ho : ops[j]? = some o) {e : Edge} (he : e ∈ o.after.toList) (hb : Region.binds .any e = true) : e.on < j := by
  simp only [drawOkF, orderOkF, Bool.and_eq_true, List.all_eq_true] at h
  have := h.1 (o, j) (by rw [List.mem_zipIdx_iff_getElem?]; exact ho)
  have := this e he
  simp only [hb, Bool.not_true, Bool.false_or] at this
  exact Nat.le_of_ble_eq_true this

theorem drawOkF_clash {ops : List Oper} (h : drawOkF P ce ops = true) {i j : Nat} {oi oj : Oper} (hi : ops[i]? = some oi) (hj : ops[j]? = some oj) (hij : i < j) (hc : clashF P ce ops oi oj = true) :
    ((masks ops).getD j 0).testBit i = true := by
  simp only [drawOkF, orderOkF, Bool.and_eq_true, List.all_eq_true] at h
  have := h.2 (oj, j) (by rw [List.mem_zipIdx_iff_getElem?]; exact hj)
  have := this (oi, i) (by rw [List.mem_zipIdx_iff_getElem?]; simp only [List.getElem?_take, if_pos hij]; exact hi)
  simpa [hc] using this

theorem drawOk_F {ops : List Oper} (h : drawOk P ce ops = true) : drawOkF P ce ops = true := by
  simp only [drawOk, orderOk, Bool.and_eq_true, List.all_eq_true] at h
  simp only [drawOkF, orderOkF, Bool.and_eq_true, List.all_eq_true]
  refine ⟨h.1, fun p hp q hq => ?_⟩
  have := h.2 p hp q hq
  cases hc : clashF P ce ops q.1 p.1 with
  | false => rfl
  | true => rw [clashF_clash hc] at this; simpa using this

/-- A load once more: what it gave it gives here too. -/
def W.chk (g : Heap → Post → Prop) (v : Value) (H : Heap) (rest : Prop) : Prop := g H (fun v' H' => v' = v ∧ H' = H) ∧ rest

/-- A load that may still come: its number, the frame where it stands in the text, the operation, its value. -/
structure Pend where
  at_ : Nat
  op : Oper
  fr : Frm
  v : Value

def dropP (m : Nat) : List Pend → List Pend
  | [] => []
  | p :: r => match m.testBit p.at_ with | true => dropP m r | false => p :: dropP m r

def chks (P : Program) : List Pend → Heap → Prop → Prop
  | [], _, K => K
  | p :: r, H, K => W.chk (fun H k => denOp P p.op (aev p.fr) k H) p.v H (chks P r H K)

/-- The heaps ahead of the writes that a load may come ahead of. -/
def early (m : Nat) : List (Nat × Heap) → List Heap
  | [] => []
  | (k, h) :: r => match m.testBit k with | true => early m r | false => h :: early m r

def chkE (P : Program) (o : Oper) (fr : Frm) (v : Value) : List Heap → Prop → Prop
  | [], K => K
  | h :: r, K => W.chk (fun H k => denOp P o (aev fr) k H) v h (chkE P o fr v r K)

theorem chkE_spec {o : Oper} {fr : Frm} {v : Value} : ∀ {l : List Heap} {K : Prop}, chkE P o fr v l K → K ∧ ∀ h ∈ l, denOp P o (aev fr) (fun v' H' => v' = v ∧ H' = h) h
  | [], _, h => ⟨h, fun p hp => by cases hp⟩
  | q :: r, K, h => by
    obtain ⟨h1, h2⟩ := h
    obtain ⟨h3, h4⟩ := chkE_spec h2
    refine ⟨h3, fun p hp => ?_⟩
    rcases List.mem_cons.1 hp with rfl | hp
    · exact h1
    · exact h4 p hp

theorem mem_early {m k : Nat} {h : Heap} : ∀ {l : List (Nat × Heap)}, (k, h) ∈ l → m.testBit k = false → h ∈ early m l
  | [], hm, _ => by cases hm
  | (k', h') :: r, hm, hb => by
    unfold early
    rcases List.mem_cons.1 hm with e | hm
    · cases e
      rw [hb]
      exact List.mem_cons_self
    · split
      · exact mem_early hm hb
      · exact List.mem_cons_of_mem _ (mem_early hm hb)

def denOpsF (ce : Bool) (P : Program) (ops : List Oper) (ms : List Nat) : List Oper → Nat → List Pend → List (Nat × Heap) → (Frm → Heap → Prop) → Frm → Heap → Prop
  | [], _, _, _, K, fr, H => K fr H
  | o :: rest, i, pd, hs, K, fr, H => denGuardedQ ce P ops o fr (fun v H' =>
      match isE ce o.op with
      | true => chks P (dropP (ms.getD i 0) pd) H' (denOpsF ce P ops ms rest (i + 1) (dropP (ms.getD i 0) pd) ((i, H) :: hs) K (fr.put o.dst v) H')
      | false => match isLd o with
        | true => chkE P o fr v (early (ms.getD i 0) hs) (denOpsF ce P ops ms rest (i + 1) ({ at_ := i, op := o, fr := fr, v := v } :: pd) hs K (fr.put o.dst v) H')
        | false => denOpsF ce P ops ms rest (i + 1) pd hs K (fr.put o.dst v) H') H

theorem chks_spec : ∀ {l : List Pend} {H : Heap} {K : Prop}, chks P l H K → K ∧ ∀ p ∈ l, denOp P p.op (aev p.fr) (fun v' H' => v' = p.v ∧ H' = H) H
  | [], _, _, h => ⟨h, fun p hp => by cases hp⟩
  | q :: r, H, K, h => by
    obtain ⟨h1, h2⟩ := h
    obtain ⟨h3, h4⟩ := chks_spec h2
    refine ⟨h3, fun p hp => ?_⟩
    rcases List.mem_cons.1 hp with rfl | hp
    · exact h1
    · exact h4 p hp

theorem mem_dropP {m : Nat} {p : Pend} : ∀ {l : List Pend}, p ∈ dropP m l ↔ p ∈ l ∧ m.testBit p.at_ = false
  | [] => by simp [dropP]
  | q :: r => by
    unfold dropP
    split
    · rename_i hb
      rw [mem_dropP]
      constructor
      · rintro ⟨h1, h2⟩; exact ⟨List.mem_cons_of_mem _ h1, h2⟩
      · rintro ⟨h1, h2⟩
        rcases List.mem_cons.1 h1 with rfl | h1
        · rw [hb] at h2; cases h2
        · exact ⟨h1, h2⟩
    · rename_i hb
      rw [List.mem_cons, mem_dropP]
      constructor
      · rintro (rfl | ⟨h1, h2⟩)
        · exact ⟨List.mem_cons_self, hb⟩
        · exact ⟨List.mem_cons_of_mem _ h1, h2⟩
      · rintro ⟨h1, h2⟩
        rcases List.mem_cons.1 h1 with rfl | h1
        · exact .inl rfl
        · exact .inr ⟨h1, h2⟩

/-- A load may come behind the write at m, by the edges. -/
def mayWait (ce : Bool) (ops : List Oper) (ms : List Nat) (j m : Nat) : Prop := ∀ i o, ops[i]? = some o → j < i → i ≤ m → isE ce o.op = true → (ms.getD i 0).testBit j = false

theorem denOpsF_run {ops : List Oper} {ms : List Nat} {K : Frm → Heap → Prop} : ∀ (l : List Oper) (m : Nat) (pd : List Pend) (hs : List (Nat × Heap)) (fr : Frm) (H : Heap), denOpsF ce P ops ms l m pd hs K fr H → (∀ i, l[i]? = ops[m + i]?) → m + l.length = ops.length →
    ∃ (F : Nat → Frm) (HH : Nat → Heap) (V : Nat → Value), F m = fr ∧ HH m = H ∧ K (F ops.length) (HH ops.length) ∧
      (∀ j o, m ≤ j → ops[j]? = some o → F (j + 1) = (F j).put o.dst (V j) ∧ RunAt ce P ops o (F j) (HH j) (V j) (HH (j + 1))) ∧
      (∀ p ∈ pd, p.at_ < m → ∀ i o, m ≤ i → ops[i]? = some o → isE ce o.op = true → (∀ i' o', ops[i']? = some o' → m ≤ i' → i' ≤ i → isE ce o'.op = true → (ms.getD i' 0).testBit p.at_ = false) →
        denOp P p.op (aev p.fr) (fun v' H' => v' = p.v ∧ H' = HH (i + 1)) (HH (i + 1))) ∧
      (∀ j o, m ≤ j → ops[j]? = some o → isLd o = true → ∀ i oi, j < i → ops[i]? = some oi → isE ce oi.op = true → mayWait ce ops ms j i →
        denOp P o (aev (F j)) (fun v' H' => v' = V j ∧ H' = HH (i + 1)) (HH (i + 1))) ∧
      (∀ j o, m ≤ j → ops[j]? = some o → isLd o = true → ∀ k h, (k, h) ∈ hs → (ms.getD j 0).testBit k = false → denOp P o (aev (F j)) (fun v' H' => v' = V j ∧ H' = h) h) ∧
      (∀ j o, m ≤ j → ops[j]? = some o → isLd o = true → ∀ i oi, m ≤ i → i < j → ops[i]? = some oi → isE ce oi.op = true → (ms.getD j 0).testBit i = false →
        denOp P o (aev (F j)) (fun v' H' => v' = V j ∧ H' = HH i) (HH i))
  | [], m, pd, hs, fr, H, h, _, hl => by
    simp only [List.length_nil, Nat.add_zero] at hl
    refine ⟨fun _ => fr, fun _ => H, fun _ => undef, rfl, rfl, h, fun j o hj ho => ?_, fun p _ _ i o hi ho => ?_, fun j o hj ho => ?_, fun j o hj ho => ?_, fun j o hj ho => ?_⟩
    · rw [List.getElem?_eq_none (by omega)] at ho; cases ho
    · rw [List.getElem?_eq_none (by omega)] at ho; cases ho
    · rw [List.getElem?_eq_none (by omega)] at ho; cases ho
    · rw [List.getElem?_eq_none (by omega)] at ho; cases ho
    · rw [List.getElem?_eq_none (by omega)] at ho; cases ho
  | o :: rest, m, pd, hs, fr, H, h, hi, hl => by
    simp only [denOpsF] at h
    obtain ⟨v, H1, hk, hr⟩ := denGuardedQ_sound h
    have h0 : ops[m]? = some o := by simpa using (hi 0).symm
    have key : ∀ pd' hs', denOpsF ce P ops ms rest (m + 1) pd' hs' K (fr.put o.dst v) H1 →
        (∀ x ∈ hs, x ∈ hs') → (isE ce o.op = true → (m, H) ∈ hs') → (isLd o = true → ∀ k h, (k, h) ∈ hs → (ms.getD m 0).testBit k = false → denOp P o (aev fr) (fun v' H' => v' = v ∧ H' = h) h) →
        (∀ p ∈ pd, p.at_ < m → (isE ce o.op = true → (ms.getD m 0).testBit p.at_ = false) → p ∈ pd') →
        (∀ p ∈ pd, p.at_ < m → isE ce o.op = true → (ms.getD m 0).testBit p.at_ = false → denOp P p.op (aev p.fr) (fun v' H' => v' = p.v ∧ H' = H1) H1) →
        (isLd o = true → { at_ := m, op := o, fr := fr, v := v : Pend } ∈ pd') →
        ∃ (F : Nat → Frm) (HH : Nat → Heap) (V : Nat → Value), F m = fr ∧ HH m = H ∧ K (F ops.length) (HH ops.length) ∧
          (∀ j o, m ≤ j → ops[j]? = some o → F (j + 1) = (F j).put o.dst (V j) ∧ RunAt ce P ops o (F j) (HH j) (V j) (HH (j + 1))) ∧
          (∀ p ∈ pd, p.at_ < m → ∀ i o, m ≤ i → ops[i]? = some o → isE ce o.op = true → (∀ i' o', ops[i']? = some o' → m ≤ i' → i' ≤ i → isE ce o'.op = true → (ms.getD i' 0).testBit p.at_ = false) →
            denOp P p.op (aev p.fr) (fun v' H' => v' = p.v ∧ H' = HH (i + 1)) (HH (i + 1))) ∧
          (∀ j o, m ≤ j → ops[j]? = some o → isLd o = true → ∀ i oi, j < i → ops[i]? = some oi → isE ce oi.op = true → mayWait ce ops ms j i →
            denOp P o (aev (F j)) (fun v' H' => v' = V j ∧ H' = HH (i + 1)) (HH (i + 1))) ∧
          (∀ j o, m ≤ j → ops[j]? = some o → isLd o = true → ∀ k h, (k, h) ∈ hs → (ms.getD j 0).testBit k = false → denOp P o (aev (F j)) (fun v' H' => v' = V j ∧ H' = h) h) ∧
          (∀ j o, m ≤ j → ops[j]? = some o → isLd o = true → ∀ i oi, m ≤ i → i < j → ops[i]? = some oi → isE ce oi.op = true → (ms.getD j 0).testBit i = false →
            denOp P o (aev (F j)) (fun v' H' => v' = V j ∧ H' = HH i) (HH i)) := by
      intro pd' hs' hk' hsk hsn hse hkeep hnow hnew
      obtain ⟨F, HH, V, h1, h2, h3, h4, h5, h6, h7, h8⟩ := denOpsF_run rest (m + 1) pd' hs' _ _ hk' (fun i => by have := hi (i + 1); simpa [Nat.add_assoc, Nat.add_comm 1 i] using this) (by simp at hl; omega)
      refine ⟨fun j => if j = m then fr else F j, fun j => if j = m then H else HH j, fun j => if j = m then v else V j, by simp, by simp, ?_, fun j o' hj ho => ?_, fun p hp hpm i o' hmi ho' hE hw => ?_, fun j o' hj ho hld i oi hji hoi hE hw => ?_, fun j o' hj ho hld k hp0 hkh hb => ?_, fun j o' hj ho hld i oi hmi hij hoi hE hb => ?_⟩
      · have : ¬ ops.length = m := by simp at hl; omega
        simpa [this] using h3
      · by_cases hjm : j = m
        · subst hjm
          rw [h0] at ho
          cases ho
          simp only [if_true, if_neg (Nat.succ_ne_self j)]
          rw [h1, h2]
          exact ⟨rfl, hr⟩
        · have := h4 j o' (by omega) ho
          simp only [if_neg hjm, if_neg (show ¬ j + 1 = m by omega)]
          exact this
      · simp only [if_neg (show ¬ i + 1 = m by omega)]
        by_cases him : i = m
        · subst him
          rw [h0] at ho'
          cases ho'
          rw [h2]
          exact hnow p hp hpm hE (hw i o h0 (Nat.le_refl _) (Nat.le_refl _) hE)
        · exact h5 p (hkeep p hp hpm fun hE' => hw m o h0 (Nat.le_refl _) hmi hE') (by omega) i o' (by omega) ho' hE fun i' o2 h h' h'' h3 => hw i' o2 h (by omega) h'' h3
      · simp only [if_neg (show ¬ i + 1 = m by omega)]
        by_cases hjm : j = m
        · subst hjm
          rw [h0] at ho
          cases ho
          simp only [if_true]
          exact h5 _ (hnew hld) (Nat.lt_succ_self _) i oi (by omega) hoi hE fun i' o2 h h' h'' h3 => hw i' o2 h (by omega) h'' h3
        · simp only [if_neg hjm]
          exact h6 j o' (by omega) ho hld i oi hji hoi hE hw
      · by_cases hjm : j = m
        · subst hjm
          rw [h0] at ho
          cases ho
          simp only [if_true]
          exact hse hld k hp0 hkh hb
        · simp only [if_neg hjm]
          exact h7 j o' (by omega) ho hld k hp0 (hsk _ hkh) hb
      · have hjm : ¬ j = m := by omega
        simp only [if_neg hjm]
        by_cases him : i = m
        · subst him
          rw [h0] at hoi
          cases hoi
          simp only [if_true]
          exact h7 j o' (by omega) ho hld i H (hsn hE) hb
        · simp only [if_neg him]
          exact h8 j o' (by omega) ho hld i oi (by omega) hij hoi hE hb
    split at hk
    · rename_i hE
      obtain ⟨hk, hc⟩ := chks_spec hk
      exact key _ _ hk (fun x hx => List.mem_cons_of_mem _ hx) (fun _ => List.mem_cons_self) (fun hl => by rw [isLd_E hl] at hE; cases hE) (fun p hp _ hb => mem_dropP.2 ⟨hp, hb hE⟩) (fun p hp _ _ hb => hc p (mem_dropP.2 ⟨hp, hb⟩)) (fun hl => by rw [isLd_E hl] at hE; cases hE)
    · rename_i hE
      split at hk
      · obtain ⟨hk, hc⟩ := chkE_spec hk
        exact key _ _ hk (fun x hx => hx) (fun h => by rw [hE] at h; cases h) (fun _ k h hkh hb => hc h (mem_early hkh hb)) (fun p hp _ _ => List.mem_cons_of_mem _ hp) (fun p _ _ h => by rw [hE] at h; cases h) (fun _ => List.mem_cons_self)
      · rename_i hl
        exact key _ _ hk (fun x hx => hx) (fun h => by rw [hE] at h; cases h) (fun h => by rw [hl] at h; cases h) (fun p hp _ _ => hp) (fun p _ _ h => by rw [hE] at h; cases h) (fun h => by rw [hl] at h; cases h)

end
end Go.Ab

/-! Whatever order a region's operations come in: they give what they give in the text's order. -/
namespace Go.Ab
variable {P : Program}

variable {ce : Bool}

theorem VR.mono {φ1 φ2 : Phi} {H1 H2 : Heap} {v u : Value} (h : VR φ1 H1 v u) (hn : H1.next ≤ H2.next)
    (hb : ∀ b, b < H1.next → ∀ k2, H2.blk b = some k2 → ∃ k1, H1.blk b = some k1 ∧ k2.esz = k1.esz ∧ φ2 b = φ1 b) : VR φ2 H2 v u := by
  have arx : ∀ a a', AR φ1 H1 a a' → AR φ2 H2 a a' := fun a a' h =>
    ⟨h.spot, h.spot', h.off, Nat.lt_of_lt_of_le h.lt hn, fun k2 hk2 => by
      obtain ⟨k1, g1, _, g3⟩ := hb _ h.lt k2 hk2
      rw [g3]; exact h.map k1 g1⟩
  induction h with
  | junk v => exact .junk v
  | bool b => exact .bool b
  | int k n => exact .int k n
  | string s => exact .string s
  | pnil => exact .pnil
  | ptr h => exact .ptr (arx _ _ h)
  | snil => exact .snil
  | emp a c => exact .emp a c
  | slice h hc hr =>
    exact .slice (arx _ _ h) hc fun k2 hk2 he => by
      obtain ⟨k1, g1, g2, g3⟩ := hb _ h.lt k2 hk2
      rw [g2, g3]; exact hr k1 g1 he
  | func f xs ys xs' ys' hx hy _ _ rx ry => exact .func f xs ys xs' ys' hx hy rx ry
  | nilFunc => exact .nilFunc
  | nilIface => exact .nilIface
  | iface t v v' _ ih => exact .iface t v v' ih
  | agg xs xs' hx _ rx => exact .agg xs xs' hx rx
  | tuple xs xs' hx _ rx => exact .tuple xs xs' hx rx

/-- All blocks that a value names have numbers below n. -/
def Sc (n : Nat) (v : Value) : Prop := ∃ (φ : Phi) (H : Heap) (u : Value), H.next ≤ n ∧ VR φ H v u

theorem VR.down {φ1 φ2 : Phi} {H1 H2 : Heap} {v u : Value} (h : VR φ2 H2 v u) (hs : Sc H1.next v)
    (hb : ∀ b, b < H1.next → ∀ k1, H1.blk b = some k1 → ∃ k2, H2.blk b = some k2 ∧ k1.esz = k2.esz ∧ φ1 b = φ2 b) : VR φ1 H1 v u := by
  have arx : ∀ a a', AR φ2 H2 a a' → a.block < H1.next → AR φ1 H1 a a' := fun a a' h hl =>
    ⟨h.spot, h.spot', h.off, hl, fun k1 hk1 => by
      obtain ⟨k2, g1, _, g3⟩ := hb _ hl k1 hk1
      rw [g3]; exact h.map k2 g1⟩
  induction h with
  | junk v => exact .junk v
  | bool b => exact .bool b
  | int k n => exact .int k n
  | string s => exact .string s
  | pnil => exact .pnil
  | ptr h =>
    obtain ⟨φ, H, u, h1, h2⟩ := hs
    obtain ⟨a', _, h3⟩ := h2.of_ptr
    exact .ptr (arx _ _ h (Nat.lt_of_lt_of_le h3.lt h1))
  | snil => exact .snil
  | emp a c => exact .emp a c
  | slice h hc hr =>
    obtain ⟨φ, H, u, h1, h2⟩ := hs
    obtain ⟨a', _, _, h3, _⟩ := h2.of_slice
    have hl := Nat.lt_of_lt_of_le h3.lt h1
    exact .slice (arx _ _ h hl) hc fun k1 hk1 he => by
      obtain ⟨k2, g1, g2, g3⟩ := hb _ hl k1 hk1
      rw [g2, g3]; exact hr k2 g1 he
  | func f xs ys xs' ys' hx hy _ _ rx ry =>
    obtain ⟨φ, H, u, h1, h2⟩ := hs
    obtain ⟨xs2, ys2, _, l1, l2, q1, q2⟩ := h2.of_func
    exact .func f xs ys xs' ys' hx hy (fun i g1 g2 => rx i g1 g2 ⟨φ, H, _, h1, q1 i g1 (by omega)⟩) (fun i g1 g2 => ry i g1 g2 ⟨φ, H, _, h1, q2 i g1 (by omega)⟩)
  | nilFunc => exact .nilFunc
  | nilIface => exact .nilIface
  | iface t v v' _ ih =>
    obtain ⟨φ, H, u, h1, h2⟩ := hs
    cases h2 with | iface _ _ v2 q => exact .iface t v v' (ih ⟨φ, H, v2, h1, q⟩)
  | agg xs xs' hx _ rx =>
    obtain ⟨φ, H, u, h1, h2⟩ := hs
    obtain ⟨xs2, _, l1, q1⟩ := h2.of_agg
    exact .agg xs xs' hx (fun i g1 g2 => rx i g1 g2 ⟨φ, H, _, h1, q1 i g1 (by omega)⟩)
  | tuple xs xs' hx _ rx =>
    obtain ⟨φ, H, u, h1, h2⟩ := hs
    obtain ⟨xs2, _, l1, q1⟩ := h2.of_tuple
    exact .tuple xs xs' hx (fun i g1 g2 => rx i g1 g2 ⟨φ, H, _, h1, q1 i g1 (by omega)⟩)

/-- A step so far: what Ext says, but for what is not yet done. -/
structure PExt (φ : Phi) (H : Heap) (w : World) (φ' : Phi) (H' : Heap) (w' : World) : Prop where
  big : 4096 ≤ H.next
  next : H.next ≤ H'.next
  back : ∀ b, b < H.next → ∀ k', H'.blk b = some k' → ∃ k, H.blk b = some k ∧ k'.ro = k.ro ∧ k'.ty = k.ty ∧ k'.esz = k.esz
  agree : ∀ b, b < H.next → H'.blk b ≠ none → φ' b = φ b
  fresh : ∀ b cb r, H.next ≤ b → φ' b = some (cb, r) →
    w.heap.size ≤ cb ∨ ∃ b0 k0 r0, b0 < H.next ∧ φ b0 = some (cb, r0) ∧ H.blk b0 = some k0 ∧ k0.ro = false ∧ H'.blk b0 = none
  frame : ∀ cb, cb < w.heap.size → (∀ b k r, φ b = some (cb, r) → H.blk b = some k → k.ro = true) → w'.heap[cb]? = w.heap[cb]?
  size : w.heap.size ≤ w'.heap.size
  os : w'.os = w.os
  tape : w'.tape = w.tape
  output : w'.output = w.output

theorem PExt.trans {φ H w φ' H' w' φ'' H'' w''} (x : PExt φ H w φ' H' w') (y : Ext φ' H' w' φ'' H'' w'') : PExt φ H w φ'' H'' w'' where
  big := x.big
  next := Nat.le_trans x.next y.next
  back := fun b hb k'' h'' => by
    obtain ⟨k', h', r', t', e'⟩ := y.back b (Nat.lt_of_lt_of_le hb x.next) k'' h''
    obtain ⟨k, h, r, t, e⟩ := x.back b hb k' h'
    exact ⟨k, h, r'.trans r, t'.trans t, e'.trans e⟩
  agree := fun b hb h'' => by
    have hb' := Nat.lt_of_lt_of_le hb x.next
    have h' : H'.blk b ≠ none := by
      obtain ⟨k'', hk''⟩ := Option.ne_none_iff_exists'.1 h''
      obtain ⟨k', h', _⟩ := y.back b hb' k'' hk''
      rw [h']; simp
    rw [y.agree b hb' h'', x.agree b hb h']
  fresh := fun b cb r hb h'' => by
    have dead : ∀ b0, b0 < H.next → H'.blk b0 = none → H''.blk b0 = none := fun b0 hb0 h0 => by
      cases hk : H''.blk b0 with
      | none => rfl
      | some k'' =>
        obtain ⟨k', h', _⟩ := y.back b0 (Nat.lt_of_lt_of_le hb0 x.next) k'' hk
        rw [h0] at h'; cases h'
    have one : ∀ b r, H.next ≤ b → φ' b = some (cb, r) →
        w.heap.size ≤ cb ∨ ∃ b0 k0 r0, b0 < H.next ∧ φ b0 = some (cb, r0) ∧ H.blk b0 = some k0 ∧ k0.ro = false ∧ H''.blk b0 = none := fun b r hb h' => by
      rcases x.fresh b cb r hb h' with h | ⟨b0, k0, r0, h1, h2, h3, h4, h5⟩
      · exact .inl h
      · exact .inr ⟨b0, k0, r0, h1, h2, h3, h4, dead b0 h1 h5⟩
    by_cases hb' : H'.next ≤ b
    · rcases y.fresh b cb r hb' h'' with h | ⟨b0, k0, r0, h1, h2, h3, h4, h5⟩
      · exact .inl (Nat.le_trans x.size h)
      · by_cases h0 : b0 < H.next
        · obtain ⟨k, hk, hr, _⟩ := x.back b0 h0 k0 h3
          exact .inr ⟨b0, k, r0, h0, by rw [← x.agree b0 h0 (by rw [h3]; simp)]; exact h2, hk, by rw [← hr]; exact h4, h5⟩
        · exact one b0 r0 (by omega) h2
    · have hb' : b < H'.next := by omega
      rw [y.agree b hb' (y.sim.live b _ h'')] at h''
      exact one b r hb h''
  frame := fun cb hcb hro => by
    rw [y.frame cb (Nat.lt_of_lt_of_le hcb x.size) ?_, x.frame cb hcb hro]
    intro b k' r hb hk'
    by_cases hb0 : b < H.next
    · obtain ⟨k, hk, hr, _⟩ := x.back b hb0 k' hk'
      rw [hr]
      exact hro b k r (by rw [← x.agree b hb0 (by rw [hk']; simp)]; exact hb) hk
    · rcases x.fresh b cb r (by omega) hb with h | ⟨b0, k0, r0, h1, h2, h3, h4, h5⟩
      · omega
      · rw [hro b0 k0 r0 h2 h3] at h4; cases h4
  size := Nat.le_trans x.size y.size
  os := y.os.trans x.os
  tape := y.tape.trans x.tape
  output := y.output.trans x.output

theorem PExt.le {φ H w φ' H' w' H''} (x : PExt φ H w φ' H' w') (l : H'.Le H'') : PExt φ H w φ' H'' w' where
  big := x.big
  next := Nat.le_trans x.next l.next
  back := fun b hb k'' h => x.back b hb k'' (by rw [← l.blk b (Nat.lt_of_lt_of_le hb x.next)]; exact h)
  agree := fun b hb h => x.agree b hb (by rw [← l.blk b (Nat.lt_of_lt_of_le hb x.next)]; exact h)
  fresh := fun b cb r hb h => by
    rcases x.fresh b cb r hb h with h | ⟨b0, k0, r0, h1, h2, h3, h4, h5⟩
    · exact .inl h
    · exact .inr ⟨b0, k0, r0, h1, h2, h3, h4, by rw [l.blk b0 (Nat.lt_of_lt_of_le h1 x.next)]; exact h5⟩
  frame := x.frame
  size := x.size
  os := x.os
  tape := x.tape
  output := x.output

theorem Sim.up {φ : Phi} {H H2 : Heap} {w : World} (s : Sim φ H w) (l : H.Le H2) (wf : ∀ b, H2.blk b ≠ none → b < H2.next) : Sim φ H2 w where
  wf := wf
  big := Nat.le_trans s.big l.next
  glob := fun b k hb hk => s.glob b k hb (by rw [← l.blk b (Nat.lt_of_lt_of_le hb s.big)]; exact hk)
  live := fun b x h => by rw [l.blk b (s.wf b (s.live b x h))]; exact s.live b x h
  inj := s.inj
  cells := fun b k cb r hk hb => by
    rw [l.blk b (s.wf b (s.live b _ hb))] at hk
    obtain ⟨arr, fz, g1, g2, g3, g4, g5⟩ := s.cells b k cb r hk hb
    refine ⟨arr, fz, g1, g2, g3, g4, fun i v hv => ?_⟩
    obtain ⟨v', h1, h2⟩ := g5 i v hv
    exact ⟨v', h1, h2.mono l.next fun c hc k2 hk2 => ⟨k2, by rw [← l.blk c hc]; exact hk2, rfl, rfl⟩⟩

/-- What an operation comes to when nothing may go wrong: some frame, some world. -/
theorem step_extract {P : Program} {ops : Array Oper} {o : Oper} {a : Act} {w : World} {next : Act → World → Prop}
    (h : if Region.wanted o (yielded ops a.tmps) then o.wp P a w next (fun _ _ _ => False) ∨ (o.asks P a w ∧ LetsOut (fun _ _ _ => False)) else next (a.put o.dst undef) w) :
    ∃ a' w', next a' w' := by
  split at h
  · rcases h with h | ⟨_, _, _, h⟩
    · unfold Oper.wp at h
      generalize (execOp a.eval o).run P w = r at h
      cases r with
      | ok n w' =>
        cases n <;> simp only [Oper.upon] at h <;> first
          | exact ⟨_, _, h⟩
          | (obtain ⟨e, w2, fr, hR, _⟩ := h []
             cases e <;> first | exact ⟨_, _, hR⟩ | exact hR.elim | (obtain ⟨_, _, hf⟩ := hR; exact hf.elim))
          | (obtain ⟨v, w2, hR, _⟩ := h default []; exact ⟨_, _, hR⟩)
          | exact h.elim
      | halt x w' => cases x <;> simp only [Oper.upon] at h
    · exact h.elim
  · exact ⟨_, _, h⟩

/-! ### The region -/

section region
variable {P : Program} {ops : Array Oper} {nt : Nat} {F : Nat → Frm} {HH : Nat → Heap} {V : Nat → Value}

/-- The run in the text's order is there. -/
theorem text_run (hdst : dstsOk nt ops.toList = true)
    (hrun : ∀ j o, ops.toList[j]? = some o → F (j + 1) = (F j).put o.dst (V j) ∧ RunAt ce P ops.toList o (F j) (HH j) (V j) (HH (j + 1)))
    {φ0 : Phi} {w0 : World} {a0 : Act} (s0 : Sim φ0 (HH 0) w0) (f0 : FR φ0 (HH 0) (F 0) a0.tmps) (n0 : a0.tmps.size = nt) :
    ∀ i, i ≤ ops.size → ∃ (φ : Phi) (w : World) (a : Act), Sim φ (HH i) w ∧ FR φ (HH i) (F i) a.tmps ∧ a.tmps.size = nt ∧ (HH 0).next ≤ (HH i).next
  | 0, _ => ⟨φ0, w0, a0, s0, f0, n0, Nat.le_refl _⟩
  | i + 1, hi => by
    obtain ⟨φ, w, a, s, f, hn, hnx⟩ := text_run hdst hrun s0 f0 n0 i (by omega)
    have ho : ops.toList[i]? = some (ops[i]'(by omega)) := by simp
    obtain ⟨hF, hr⟩ := hrun i _ ho
    obtain ⟨a', w', φ', h1, h2, h3⟩ := step_extract (P := P) (next := fun a' w' => ∃ φ', Sim φ' (HH (i + 1)) w' ∧ FR φ' (HH (i + 1)) (F (i + 1)) a'.tmps ∧ a'.tmps.size = nt ∧ (HH 0).next ≤ (HH (i + 1)).next)
      (hr.g.wpOp s (fun x _ => f.eval x) (fun j want t _ _ => f t) fun φ' w' cv x r => by
        refine ⟨φ', x.sim, ?_, by rw [put_size]; exact hn, Nat.le_trans hnx x.next⟩
        rw [hF]
        exact FR.put (fun t => (f t).ext x) r (fun t ht => by rw [hn]; exact dstsOk_spec hdst (List.mem_of_getElem? ho) t ht))
    exact ⟨φ', w', a', h1, h2, h3⟩

/-- What may come at other times than in the text. -/
def isFl (P : Program) (o : Oper) : Bool := isPure P o.op || isLd o

theorem isE_fl {o : Oper} (h : isE ce o.op = true) : isFl P o = false := by
  unfold isFl
  rw [isE_pure h, Bool.false_or]
  cases hl : isLd o with
  | false => rfl
  | true => rw [isLd_E hl] at h; cases h

/-- The slot's writers ahead of i are done, the others are not. -/
def Valid (ops : Array Oper) (L : Nat → Prop) (t i : Nat) : Prop :=
  (∀ j o, ops.toList[j]? = some o → j < i → writesT o t = true → L j) ∧ (∀ j o, ops.toList[j]? = some o → i ≤ j → writesT o t = true → ¬ L j)

structure Inv (P : Program) (ce : Bool) (ops : Array Oper) (nt : Nat) (F : Nat → Frm) (HH : Nat → Heap) (φ0 : Phi) (w0 : World) (L : Nat → Prop) (a : Act) (w : World) (p q : Nat) (φ : Phi) : Prop where
  pq : p ≤ q
  qn : q ≤ ops.size
  done : ∀ i o, ops.toList[i]? = some o → isFl P o = false → i < p → L i
  todo : ∀ i o, ops.toList[i]? = some o → isFl P o = false → q ≤ i → ¬ L i
  noE : ∀ i o, ops.toList[i]? = some o → p ≤ i → i < q → isE ce o.op = false
  atE : ∀ o, ops.toList[q]? = some o → isE ce o.op = true
  sim : Sim φ (HH q) w
  sc : ∀ i b k, p ≤ i → i ≤ q → φ b ≠ none → (HH i).blk b = some k → ∀ v ∈ k.cells, Sc (HH i).next v
  nd : ∀ j o, ops.toList[j]? = some o → p ≤ j → j < q → ¬ L j → ∀ b, (HH j).next ≤ b → b < (HH (j + 1)).next → φ b = none
  mp : ∀ b, (HH 0).next ≤ b → b < (HH p).next → (HH p).blk b ≠ none → φ b ≠ none
  mj : ∀ j o, ops.toList[j]? = some o → p ≤ j → j < q → L j → ∀ b, (HH j).next ≤ b → b < (HH (j + 1)).next → (HH (j + 1)).blk b ≠ none → φ b ≠ none
  ext : PExt φ0 (HH 0) w0 φ (HH q) w
  tm : ∀ t i, i ≤ ops.size → Valid ops L t i → VR φ (HH q) (F i t) (a.tmps.getD t undef)

theorem next_E (ops : Array Oper) : ∀ (d p : Nat), p + d = ops.size → ∃ q, p ≤ q ∧ q ≤ ops.size ∧ (∀ i o, ops.toList[i]? = some o → p ≤ i → i < q → isE ce o.op = false) ∧ (∀ o, ops.toList[q]? = some o → isE ce o.op = true)
  | 0, p, h => ⟨p, Nat.le_refl _, by omega, fun i o _ h1 h2 => by omega, fun o ho => by rw [List.getElem?_eq_none (by simp; omega)] at ho; cases ho⟩
  | d + 1, p, h => by
    have ho : ops.toList[p]? = some (ops[p]'(by omega)) := by simp
    cases hE : isE ce (ops[p]'(by omega)).op with
    | true => exact ⟨p, Nat.le_refl _, by omega, fun i o _ h1 h2 => by omega, fun o h' => by rw [ho] at h'; cases h'; exact hE⟩
    | false =>
      obtain ⟨q, h1, h2, h3, h4⟩ := next_E ops d (p + 1) (by omega)
      refine ⟨q, by omega, h2, fun i o hi hp hq => ?_, h4⟩
      by_cases h : i = p
      · subst h; rw [ho] at hi; cases hi; exact hE
      · exact h3 i o hi (by omega) hq

/-- Inside a segment what was stays. -/
theorem seg_le (hrun : ∀ j o, ops.toList[j]? = some o → F (j + 1) = (F j).put o.dst (V j) ∧ RunAt ce P ops.toList o (F j) (HH j) (V j) (HH (j + 1))) {p q : Nat} (hq : q ≤ ops.size)
    (noE : ∀ i o, ops.toList[i]? = some o → p ≤ i → i < q → isE ce o.op = false) : ∀ (d i : Nat), p ≤ i → i + d ≤ q → (HH i).Le (HH (i + d))
  | 0, i, _, _ => .refl _
  | d + 1, i, hp, hd => by
    have ho : ops.toList[i + d]? = some (ops[i + d]'(by omega)) := by simp
    exact (seg_le hrun hq noE d i hp (by omega)).trans ((hrun _ _ ho).2.calm (noE _ _ ho (by omega) (by omega)))

theorem seg_le' (hrun : ∀ j o, ops.toList[j]? = some o → F (j + 1) = (F j).put o.dst (V j) ∧ RunAt ce P ops.toList o (F j) (HH j) (V j) (HH (j + 1))) {p q : Nat} (hq : q ≤ ops.size)
    (noE : ∀ i o, ops.toList[i]? = some o → p ≤ i → i < q → isE ce o.op = false) {i j : Nat} (hp : p ≤ i) (hij : i ≤ j) (hj : j ≤ q) : (HH i).Le (HH j) := by
  have := seg_le hrun hq noE (j - i) i hp (by omega)
  rwa [show i + (j - i) = j by omega] at this

/-- Where a segment begins. -/
theorem seg_start (hrun : ∀ j o, ops.toList[j]? = some o → F (j + 1) = (F j).put o.dst (V j) ∧ RunAt ce P ops.toList o (F j) (HH j) (V j) (HH (j + 1)))
    (wf : ∀ i, i ≤ ops.size → ∀ b, (HH i).blk b ≠ none → b < (HH i).next) {φ0 : Phi} {w0 : World} {L : Nat → Prop} {a : Act} {w : World} {p : Nat} {φ : Phi} (hp : p ≤ ops.size)
    (done : ∀ i o, ops.toList[i]? = some o → isFl P o = false → i < p → L i) (todo : ∀ i o, ops.toList[i]? = some o → isFl P o = false → p ≤ i → ¬ L i)
    (sim : Sim φ (HH p) w) (mp : ∀ b, (HH 0).next ≤ b → b < (HH p).next → (HH p).blk b ≠ none → φ b ≠ none) (ext : PExt φ0 (HH 0) w0 φ (HH p) w)
    (tm : ∀ t i, i ≤ ops.size → Valid ops L t i → VR φ (HH p) (F i t) (a.tmps.getD t undef)) : ∃ q, Inv P ce ops nt F HH φ0 w0 L a w p q φ := by
  obtain ⟨q, h1, h2, h3, h4⟩ := next_E ops (ops.size - p) p (by omega)
  have le := fun {i j : Nat} (a : p ≤ i) (b : i ≤ j) (c : j ≤ q) => seg_le' hrun h2 h3 a b c
  have lpq : (HH p).Le (HH q) := le (Nat.le_refl _) h1 (Nat.le_refl _)
  have dom : ∀ b, φ b ≠ none → b < (HH p).next := fun b hb => by
    obtain ⟨x, hx⟩ := Option.ne_none_iff_exists'.1 hb
    exact sim.wf b (sim.live b x hx)
  refine ⟨q, ⟨h1, h2, done, fun i o hi hpu hq => todo i o hi hpu (by omega), h3, h4, sim.up lpq (wf q h2), ?_, ?_, mp, ?_, ext.le lpq,
    fun t i hi hv => (tm t i hi hv).mono lpq.next fun b hb k2 hk2 => ⟨k2, by rw [← lpq.blk b hb]; exact hk2, rfl, rfl⟩⟩⟩
  · intro i b k hpi hiq hb hk v hv
    have hlt := dom b hb
    have lpi := le (Nat.le_refl _) hpi hiq
    rw [lpi.blk b hlt] at hk
    obtain ⟨⟨cb, r⟩, hx⟩ := Option.ne_none_iff_exists'.1 hb
    obtain ⟨arr, fz, _, _, _, _, g⟩ := sim.cells b k cb r hk hx
    obtain ⟨j, hj, rfl⟩ := List.mem_iff_getElem.1 hv
    obtain ⟨v', _, g2⟩ := g j _ (List.getElem?_eq_getElem hj)
    exact ⟨φ, HH p, v', lpi.next, g2⟩
  · intro j o ho hpj hjq _ b hb _
    cases hφ : φ b with
    | none => rfl
    | some x =>
      have := dom b (by rw [hφ]; simp)
      have := (le (Nat.le_refl _) hpj (by omega)).next
      omega
  · intro j o ho hpj hjq hL b hb hb2 _
    cases hpu : isFl P o with
    | true =>
      have : HH (j + 1) = HH j := by
        unfold isFl at hpu
        rw [Bool.or_eq_true] at hpu
        rcases hpu with h | h
        · exact ((hrun j o ho).2.pure h).1
        · exact (hrun j o ho).2.ld h
      rw [this] at hb2
      omega
    | false => exact absurd hL (todo j o ho hpu hpj)

/-- All that the segment makes has its place once all of it is done. -/
theorem seg_mapped (hrun : ∀ j o, ops.toList[j]? = some o → F (j + 1) = (F j).put o.dst (V j) ∧ RunAt ce P ops.toList o (F j) (HH j) (V j) (HH (j + 1)))
    {φ0 : Phi} {w0 : World} {L : Nat → Prop} {a : Act} {w : World} {p q : Nat} {φ : Phi}
    (I : Inv P ce ops nt F HH φ0 w0 L a w p q φ) (all : ∀ i o, ops.toList[i]? = some o → isFl P o = false → p ≤ i → i < q → L i) :
    ∀ b, (HH 0).next ≤ b → b < (HH q).next → (HH q).blk b ≠ none → φ b ≠ none := by
  have key : ∀ d, p + d ≤ q → ∀ b, (HH 0).next ≤ b → b < (HH (p + d)).next → (HH q).blk b ≠ none → φ b ≠ none := by
    intro d
    induction d with
    | zero =>
      intro hd b h0 hb hl
      exact I.mp b h0 hb (by rw [← (seg_le' hrun I.qn I.noE (Nat.le_refl _) I.pq (Nat.le_refl _)).blk b hb]; exact hl)
    | succ d ih =>
      intro hd b h0 hb hl
      by_cases h : b < (HH (p + d)).next
      · exact ih (by omega) b h0 h hl
      · have hlt : p + d < ops.size := by have := I.qn; omega
        have ho : ops.toList[p + d]? = some (ops[p + d]'hlt) := by simp
        cases hpu : isFl P (ops[p + d]'hlt) with
        | true =>
          have : HH (p + d + 1) = HH (p + d) := by
            rcases Bool.or_eq_true_iff.1 hpu with hp | hl
            · exact ((hrun _ _ ho).2.pure hp).1
            · exact (hrun _ _ ho).2.ld hl
          rw [show p + (d + 1) = p + d + 1 by omega, this] at hb
          exact absurd hb h
        | false =>
          refine I.mj _ _ ho (by omega) (by omega) (all _ _ ho hpu (by omega) (by omega)) b (by omega) hb ?_
          rw [← (seg_le' hrun I.qn I.noE (i := p + d + 1) (j := q) (by omega) (by omega) (Nat.le_refl _)).blk b hb]
          exact hl
  have := key (q - p) (by have := I.pq; omega)
  rwa [show p + (q - p) = q by have := I.pq; omega] at this

/-- A slot that nobody writes between i and j holds the same there. -/
theorem same_slot (hrun : ∀ j o, ops.toList[j]? = some o → F (j + 1) = (F j).put o.dst (V j) ∧ RunAt ce P ops.toList o (F j) (HH j) (V j) (HH (j + 1))) (t : Nat) :
    ∀ (d i : Nat), i + d ≤ ops.size → (∀ j o, ops.toList[j]? = some o → i ≤ j → j < i + d → writesT o t = false) → F (i + d) t = F i t
  | 0, i, _, _ => rfl
  | d + 1, i, hd, hw => by
    have ho : ops.toList[i + d]? = some (ops[i + d]'(by omega)) := by simp
    have h1 := same_slot hrun t d i (by omega) (fun j o hj a b => hw j o hj a (by omega))
    rw [show i + (d + 1) = i + d + 1 by omega, (hrun _ _ ho).1, ← h1]
    exact Frm.put_ne (hw _ _ ho (by omega) (by omega))

/-- The slots behind one more operation. -/
theorem tm_step (hdst : dstsOk nt ops.toList = true)
    (hrun : ∀ j o, ops.toList[j]? = some o → F (j + 1) = (F j).put o.dst (V j) ∧ RunAt ce P ops.toList o (F j) (HH j) (V j) (HH (j + 1)))
    {L : Nat → Prop} {a : Act} {j : Nat} {o : Oper} (ho : ops.toList[j]? = some o) (hjL : ¬ L j) (hnt : a.tmps.size = nt)
    (hlater : ∀ i o', ops.toList[i]? = some o' → j < i → L i → ∀ t, writesT o t = true → writesT o' t = false)
    {φ φ' : Phi} {H H' : Heap} {cv : Value} (tm : ∀ t i, i ≤ ops.size → Valid ops L t i → VR φ H (F i t) (a.tmps.getD t undef))
    (up : ∀ v u, VR φ H v u → VR φ' H' v u) (hv : VR φ' H' (V j) cv) :
    ∀ t i, i ≤ ops.size → Valid ops (fun i => L i ∨ i = j) t i → VR φ' H' (F i t) ((a.put o.dst cv).tmps.getD t undef) := by
  intro t i hi hval
  rw [put_tmps]
  have hjn : j < ops.size := by have := (List.getElem?_eq_some_iff.1 ho).1; simpa using this
  cases hw : writesT o t with
  | true =>
    have hd : o.dst = some t := by
      unfold writesT at hw
      cases h : o.dst with
      | none => rw [h] at hw; cases hw
      | some d => rw [h] at hw; rw [Nat.eq_of_beq_eq_true hw]
    rw [if_pos ⟨hd, by rw [hnt]; exact dstsOk_spec hdst (List.mem_of_getElem? ho) t hd⟩]
    have hji : j < i := by
      rcases Nat.lt_or_ge j i with h | h
      · exact h
      · exact absurd (Or.inr rfl) (hval.2 j o ho h hw)
    have hF : F i t = V j := by
      have h1 := same_slot hrun t (i - (j + 1)) (j + 1) (by omega) (fun m o' hm h1 h2 => by
        cases hw' : writesT o' t with
        | false => rfl
        | true =>
          rcases hval.1 m o' hm (by omega) hw' with h | h
          · have := hlater m o' hm (by omega) h t hw
            rw [this] at hw'; cases hw'
          · omega)
      rw [show j + 1 + (i - (j + 1)) = i by omega] at h1
      rw [h1, (hrun j o ho).1, hd]
      simp [Frm.put]
    rw [hF]
    exact hv
  | false =>
    have hne : ¬ (o.dst = some t ∧ t < a.tmps.size) := fun h => by
      unfold writesT at hw
      rw [h.1] at hw
      simp at hw
    rw [if_neg hne]
    refine up _ _ (tm t i hi ⟨fun m o' hm hmi hw' => ?_, fun m o' hm hmi hw' hL => hval.2 m o' hm hmi hw' (.inl hL)⟩)
    rcases hval.1 m o' hm hmi hw' with h | h
    · exact h
    · subst h
      rw [ho] at hm
      cases hm
      rw [hw] at hw'; cases hw'

theorem inv_float (hdst : dstsOk nt ops.toList = true)
    (hrun : ∀ j o, ops.toList[j]? = some o → F (j + 1) = (F j).put o.dst (V j) ∧ RunAt ce P ops.toList o (F j) (HH j) (V j) (HH (j + 1)))
    {φ0 : Phi} {w0 : World} {L : Nat → Prop} {a : Act} {w : World} {p q : Nat} {φ : Phi} (I : Inv P ce ops nt F HH φ0 w0 L a w p q φ) (hnt : a.tmps.size = nt)
    {j : Nat} {o : Oper} (ho : ops.toList[j]? = some o) (hjL : ¬ L j) (hp : isPure P o.op = true ∨ isLd o = true)
    (hlater : ∀ i o', ops.toList[i]? = some o' → j < i → L i → ∀ t, writesT o t = true → writesT o' t = false)
    {φ' : Phi} {w' : World} {cv : Value} (x : Ext φ (HH q) w φ' (HH q) w') (r : VR φ' (HH q) (V j) cv) :
    Inv P ce ops nt F HH φ0 w0 (fun i => L i ∨ i = j) (a.put o.dst cv) w' p q φ' := by
  have hφ : φ' = φ := funext fun b => by
    cases hb : φ b with
    | some y => rw [← hb]; exact x.agree b (I.sim.wf b (I.sim.live b y hb)) (I.sim.live b y hb)
    | none =>
      cases hb' : φ' b with
      | none => rfl
      | some y =>
        have hl := x.sim.live b y hb'
        rw [x.agree b (I.sim.wf b hl) hl, hb] at hb'
        cases hb'
  subst hφ
  refine ⟨I.pq, I.qn, fun i o' h1 h2 h3 => .inl (I.done i o' h1 h2 h3), ?_, I.noE, I.atE, x.sim, I.sc, ?_, I.mp, ?_, I.ext.trans x, ?_⟩
  · intro i o' h1 h2 h3 h4
    rcases h4 with h4 | h4
    · exact I.todo i o' h1 h2 h3 h4
    · subst h4; rw [ho] at h1; cases h1
      unfold isFl at h2
      rcases hp with hp | hp <;> rw [hp] at h2 <;> simp at h2
  · intro i o' h1 h2 h3 h4
    exact I.nd i o' h1 h2 h3 (fun h => h4 (.inl h))
  · intro i o' h1 h2 h3 h4 b hb1 hb2
    rcases h4 with h4 | h4
    · exact I.mj i o' h1 h2 h3 h4 b hb1 hb2
    · subst h4
      have e : HH (i + 1) = HH i := by
        rcases hp with hp | hp
        · exact ((hrun i o ho).2.pure hp).1
        · exact (hrun i o ho).2.ld hp
      rw [e] at hb2
      omega
  · exact tm_step hdst hrun ho hjL hnt hlater I.tm (fun v u h => h.ext x) r

theorem Sim.down {φ : Phi} {H H2 : Heap} {w : World} (s : Sim φ H2 w) (hbig : 4096 ≤ H.next) (l : H.Le H2) (wf : ∀ b, H.blk b ≠ none → b < H.next)
    (sc : ∀ b k, φ b ≠ none → H.blk b = some k → ∀ v ∈ k.cells, Sc H.next v) : Sim (fun b => if b < H.next then φ b else none) H w where
  wf := wf
  big := hbig
  glob := fun b k hb hk => by
    rw [if_pos (Nat.lt_of_lt_of_le hb hbig)]
    exact s.glob b k hb (by rw [l.blk b (Nat.lt_of_lt_of_le hb hbig)]; exact hk)
  live := fun b x h => by
    split at h
    · rename_i hb; rw [← l.blk b hb]; exact s.live b x h
    · cases h
  inj := fun b c cb r r' h1 h2 => by
    split at h1
    · split at h2
      · exact s.inj b c cb r r' h1 h2
      · cases h2
    · cases h1
  cells := fun b k cb r hk hb => by
    split at hb
    · rename_i hlt
      obtain ⟨arr, fz, g1, g2, g3, g4, g5⟩ := s.cells b k cb r (by rw [l.blk b hlt]; exact hk) hb
      refine ⟨arr, fz, g1, g2, g3, g4, fun i v hv => ?_⟩
      obtain ⟨v', h1, h2⟩ := g5 i v hv
      refine ⟨v', h1, h2.down (sc b k (by rw [hb]; simp) hk v (List.mem_of_getElem? hv)) fun c hc k1 hk1 => ⟨k1, by rw [l.blk c hc]; exact hk1, rfl, ?_⟩⟩
      simp [hc]
    · cases hb

/-- Blocks of the world that nothing stands for stay as they are. -/
def Keep (φ : Phi) (w : World) (φ' : Phi) (w' : World) : Prop :=
  w.heap.size ≤ w'.heap.size ∧ ∀ cb, cb < w.heap.size → (∀ b r, φ b ≠ some (cb, r)) → (∀ b r, φ' b ≠ some (cb, r)) ∧ w'.heap[cb]? = w.heap[cb]?

theorem Keep.ext {φ φ' : Phi} {H H' : Heap} {w w' : World} (s : Sim φ H w) (x : Ext φ H w φ' H' w') : Keep φ w φ' w' := by
  refine ⟨x.size, fun cb hcb hn => ⟨fun b r hb => ?_, x.frame cb hcb fun b k r h _ => absurd h (hn b r)⟩⟩
  have hl := x.sim.live b _ hb
  rcases Nat.lt_or_ge b H.next with h | h
  · rw [x.agree b h hl] at hb
    exact hn b r hb
  · rcases x.fresh b cb r h hb with g | ⟨b0, k0, r0, _, g, _⟩
    · omega
    · exact hn b0 r0 g

theorem inv_calm (hdst : dstsOk nt ops.toList = true)
    (hrun : ∀ j o, ops.toList[j]? = some o → F (j + 1) = (F j).put o.dst (V j) ∧ RunAt ce P ops.toList o (F j) (HH j) (V j) (HH (j + 1)))
    (wf : ∀ i, i ≤ ops.size → ∀ b, (HH i).blk b ≠ none → b < (HH i).next) (nx : ∀ i, i ≤ ops.size → (HH 0).next ≤ (HH i).next)
    {φ0 : Phi} {w0 : World} {L : Nat → Prop} {a : Act} {w : World} {p q : Nat} {φ : Phi} (I : Inv P ce ops nt F HH φ0 w0 L a w p q φ) (hnt : a.tmps.size = nt)
    {j : Nat} {o : Oper} (ho : ops.toList[j]? = some o) (hjL : ¬ L j) (hpj : p ≤ j) (hjq : j < q) (_ : isPure P o.op = false)
    (hlater : ∀ i o', ops.toList[i]? = some o' → j < i → L i → ∀ t, writesT o t = true → writesT o' t = false)
    {φ' : Phi} {w' : World} {cv : Value} (x : Ext (fun b => if b < (HH j).next then φ b else none) (HH j) w φ' (HH (j + 1)) w') (r : VR φ' (HH (j + 1)) (V j) cv) :
    ∃ φn, Inv P ce ops nt F HH φ0 w0 (fun i => L i ∨ i = j) (a.put o.dst cv) w' p q φn ∧ ∀ b cb r, φn b = some (cb, r) → φ b = some (cb, r) ∨ φ' b = some (cb, r) := by
  have le := fun {i k : Nat} (a : p ≤ i) (b : i ≤ k) (c : k ≤ q) => seg_le' hrun I.qn I.noE a b c
  have l1 : (HH j).Le (HH (j + 1)) := le hpj (by omega) (by omega)
  have l2 : (HH (j + 1)).Le (HH q) := le (by omega) (by omega) (Nat.le_refl _)
  have l0 : (HH j).Le (HH q) := l1.trans l2
  have n1 := l1.next
  have n2 := l2.next
  have l00 : (HH 0).next ≤ (HH q).next := I.ext.next
  let φn : Phi := fun b => if (HH j).next ≤ b ∧ b < (HH (j + 1)).next then φ' b else φ b
  have new_eq : ∀ b, (HH j).next ≤ b → b < (HH (j + 1)).next → φn b = φ' b := fun b h1 h2 => by simp only [φn]; rw [if_pos ⟨h1, h2⟩]
  have old_eq : ∀ b, ¬ ((HH j).next ≤ b ∧ b < (HH (j + 1)).next) → φn b = φ b := fun b h => by simp only [φn]; rw [if_neg h]
  have undone : ∀ b, (HH j).next ≤ b → b < (HH (j + 1)).next → φ b = none := I.nd j o ho hpj hjq hjL
  -- where the operation's own relation and the new one meet
  have meet : ∀ b, b < (HH (j + 1)).next → (HH (j + 1)).blk b ≠ none → φn b = φ' b := fun b hb hl => by
    by_cases h : (HH j).next ≤ b
    · exact new_eq b h hb
    · rw [old_eq b (fun h' => h h'.1), x.agree b (by omega) hl]
      simp only [show b < (HH j).next by omega, if_true]
  have up' : ∀ v u, VR φ' (HH (j + 1)) v u → VR φn (HH q) v u := fun v u h => h.mono l2.next fun b hb k2 hk2 => by
    rw [l2.blk b hb] at hk2
    exact ⟨k2, hk2, rfl, meet b hb (by rw [hk2]; simp)⟩
  have upo : ∀ v u, VR φ (HH q) v u → VR φn (HH q) v u := fun v u h => by
    have arx : ∀ a a', AR φ (HH q) a a' → AR φn (HH q) a a' := fun a a' h => ⟨h.spot, h.spot', h.off, h.lt, fun k hk => by
      obtain ⟨r, hr⟩ := h.map k hk
      refine ⟨r, ?_⟩
      rw [old_eq _ (fun h' => by rw [undone _ h'.1 h'.2] at hr; cases hr)]
      exact hr⟩
    induction h with
    | junk v => exact .junk v
    | bool b => exact .bool b
    | int k n => exact .int k n
    | string s => exact .string s
    | pnil => exact .pnil
    | ptr h => exact .ptr (arx _ _ h)
    | snil => exact .snil
    | emp a c => exact .emp a c
    | slice h hc hr =>
      exact .slice (arx _ _ h) hc fun k hk he => by
        obtain ⟨r, h1, h2⟩ := hr k hk he
        refine ⟨r, ?_, h2⟩
        rw [old_eq _ (fun h' => by rw [undone _ h'.1 h'.2] at h1; cases h1)]
        exact h1
    | func f xs ys xs' ys' hx hy _ _ rx ry => exact .func f xs ys xs' ys' hx hy rx ry
    | nilFunc => exact .nilFunc
    | nilIface => exact .nilIface
    | iface t v v' _ ih => exact .iface t v v' ih
    | agg xs xs' hx _ rx => exact .agg xs xs' hx rx
    | tuple xs xs' hx _ rx => exact .tuple xs xs' hx rx
  have dead : ∀ b0 k0, b0 < (HH j).next → (HH j).blk b0 = some k0 → (HH (j + 1)).blk b0 = none → False := fun b0 k0 h1 h2 h3 => by
    rw [l1.blk b0 h1, h2] at h3; cases h3
  have freshn : ∀ b cb r, (HH j).next ≤ b → φ' b = some (cb, r) → w.heap.size ≤ cb := fun b cb r hb h => by
    rcases x.fresh b cb r hb h with h | ⟨b0, k0, r0, h1, h2, h3, h4, h5⟩
    · exact h
    · exact (dead b0 k0 h1 h3 h5).elim
  have simn : Sim φn (HH q) w' := {
    wf := I.sim.wf
    big := I.sim.big
    glob := fun b k hb hk => by
      have h1 := nx j (by have := I.qn; omega)
      have h2 := I.ext.big
      rw [old_eq b (by omega)]
      exact I.sim.glob b k hb hk
    live := fun b y h => by
      by_cases hb : (HH j).next ≤ b ∧ b < (HH (j + 1)).next
      · rw [new_eq b hb.1 hb.2] at h
        rw [l2.blk b hb.2]
        exact x.sim.live b y h
      · rw [old_eq b hb] at h
        exact I.sim.live b y h
    inj := fun b c cb r r' h1 h2 => by
      by_cases hb : (HH j).next ≤ b ∧ b < (HH (j + 1)).next <;> by_cases hc : (HH j).next ≤ c ∧ c < (HH (j + 1)).next
      · rw [new_eq b hb.1 hb.2] at h1; rw [new_eq c hc.1 hc.2] at h2
        exact x.sim.inj b c cb r r' h1 h2
      · rw [new_eq b hb.1 hb.2] at h1; rw [old_eq c hc] at h2
        have := freshn b cb r hb.1 h1
        have := I.sim.lt h2
        omega
      · rw [old_eq b hb] at h1; rw [new_eq c hc.1 hc.2] at h2
        have := freshn c cb r' hc.1 h2
        have := I.sim.lt h1
        omega
      · rw [old_eq b hb] at h1; rw [old_eq c hc] at h2
        exact I.sim.inj b c cb r r' h1 h2
    cells := fun b k cb r hk hb => by
      by_cases hlt : b < (HH (j + 1)).next
      · rw [l2.blk b hlt] at hk
        rw [meet b hlt (by rw [hk]; simp)] at hb
        obtain ⟨arr, fz, g1, g2, g3, g4, g5⟩ := x.sim.cells b k cb r hk hb
        exact ⟨arr, fz, g1, g2, g3, g4, fun i v hv => let ⟨v', h1, h2⟩ := g5 i v hv; ⟨v', h1, up' _ _ h2⟩⟩
      · rw [old_eq b (fun h => hlt h.2)] at hb
        obtain ⟨arr, fz, g1, g2, g3, g4, g5⟩ := I.sim.cells b k cb r hk hb
        refine ⟨arr, fz, ?_, g2, g3, g4, fun i v hv => let ⟨v', h1, h2⟩ := g5 i v hv; ⟨v', h1, upo _ _ h2⟩⟩
        rw [x.frame cb (I.sim.lt hb) (fun b' k' r' h1 _ => by
          split at h1
          · have := I.sim.inj b' b cb r' r h1 hb
            omega
          · cases h1)]
        exact g1 }
  have extn : PExt φ0 (HH 0) w0 φn (HH q) w' := {
    big := I.ext.big
    next := I.ext.next
    back := I.ext.back
    agree := fun b hb hl => by
      have h0 : (HH 0).next ≤ (HH j).next := nx j (by have := I.qn; omega)
      rw [old_eq b (fun h => by omega)]
      exact I.ext.agree b hb hl
    fresh := fun b cb r hb h => by
      by_cases hn : (HH j).next ≤ b ∧ b < (HH (j + 1)).next
      · rw [new_eq b hn.1 hn.2] at h
        exact .inl (Nat.le_trans I.ext.size (freshn b cb r hn.1 h))
      · rw [old_eq b hn] at h
        exact I.ext.fresh b cb r hb h
    frame := fun cb hcb hro => by
      rw [x.frame cb (Nat.lt_of_lt_of_le hcb I.ext.size) ?_]
      · exact I.ext.frame cb hcb hro
      · intro b k r' hb hk
        split at hb
        · rename_i hlt
          have hkq : (HH q).blk b = some k := by rw [l0.blk b hlt]; exact hk
          by_cases h0 : b < (HH 0).next
          · obtain ⟨k0, g1, g2, _⟩ := I.ext.back b h0 k hkq
            rw [g2]
            exact hro b k0 r' (by rw [← I.ext.agree b h0 (by rw [hkq]; simp)]; exact hb) g1
          · rcases I.ext.fresh b cb r' (by omega) hb with h | ⟨b0, k0, r0, h1, h2, h3, h4, h5⟩
            · omega
            · rw [hro b0 k0 r0 h2 h3] at h4; cases h4
        · cases hb
    size := Nat.le_trans I.ext.size x.size
    os := x.os.trans I.ext.os
    tape := x.tape.trans I.ext.tape
    output := x.output.trans I.ext.output }
  refine ⟨φn, ⟨I.pq, I.qn, fun i o' h1 h2 h3 => .inl (I.done i o' h1 h2 h3), ?_, I.noE, I.atE, simn, ?_, ?_, ?_, ?_, extn, tm_step hdst hrun ho hjL hnt hlater I.tm upo (up' _ _ r)⟩, fun b cb r hb => by
    by_cases h : (HH j).next ≤ b ∧ b < (HH (j + 1)).next
    · rw [new_eq b h.1 h.2] at hb
      exact .inr hb
    · rw [old_eq b h] at hb
      exact .inl hb⟩
  · intro i o' h1 h2 h3 h4
    rcases h4 with h4 | h4
    · exact I.todo i o' h1 h2 h3 h4
    · omega
  · intro i b k hpi hiq hb hk v hv
    by_cases hn : (HH j).next ≤ b ∧ b < (HH (j + 1)).next
    · rw [new_eq b hn.1 hn.2] at hb
      have hij : j + 1 ≤ i := by
        rcases Nat.lt_or_ge j i with h | h
        · exact h
        · have := wf i (by have := I.qn; omega) b (by rw [hk]; simp)
          have := (le hpi h (by omega)).next
          omega
      have lji := le (i := j + 1) (k := i) (by omega) hij hiq
      rw [lji.blk b hn.2] at hk
      obtain ⟨⟨cb, r1⟩, hx⟩ := Option.ne_none_iff_exists'.1 hb
      obtain ⟨arr, fz, _, _, _, _, g⟩ := x.sim.cells b k cb r1 hk hx
      obtain ⟨m, hm, rfl⟩ := List.mem_iff_getElem.1 hv
      obtain ⟨v', _, g2⟩ := g m _ (List.getElem?_eq_getElem hm)
      exact ⟨φ', HH (j + 1), v', lji.next, g2⟩
    · rw [old_eq b hn] at hb
      exact I.sc i b k hpi hiq hb hk v hv
  · intro i o' h1 h2 h3 h4 b hb1 hb2
    have hij : i ≠ j := fun h => h4 (.inr h)
    have hφ := I.nd i o' h1 h2 h3 (fun h => h4 (.inl h)) b hb1 hb2
    rw [old_eq b ?_]
    · exact hφ
    · rintro ⟨g1, g2⟩
      rcases Nat.lt_or_ge i j with h | h
      · have := (le (i := i + 1) (k := j) (by omega) (by omega) (by omega)).next
        omega
      · have := (le (i := j + 1) (k := i) (by omega) (by omega) (by omega)).next
        omega
  · intro b hb1 hb2 hb3
    have := (le (i := p) (k := j) (Nat.le_refl _) hpj (by omega)).next
    rw [old_eq b (fun h => by omega)]
    exact I.mp b hb1 hb2 hb3
  · intro i o' h1 h2 h3 h4 b hb1 hb2 hb3
    by_cases hij : i = j
    · subst hij
      rw [new_eq b hb1 hb2]
      exact x.mapped b hb1 hb3
    · have h4 : L i := h4.elim id fun h => absurd h hij
      rw [old_eq b ?_]
      · exact I.mj i o' h1 h2 h3 h4 b hb1 hb2 hb3
      · rintro ⟨g1, g2⟩
        rcases Nat.lt_or_ge i j with h | h
        · have := (le (i := i + 1) (k := j) (by omega) (by omega) (by omega)).next
          omega
        · have := (le (i := j + 1) (k := i) (by omega) (by omega) (by omega)).next
          omega

/-- What writes memory comes when all ahead of it is done, and nothing behind it. -/
theorem inv_E (hdst : dstsOk nt ops.toList = true)
    (hrun : ∀ j o, ops.toList[j]? = some o → F (j + 1) = (F j).put o.dst (V j) ∧ RunAt ce P ops.toList o (F j) (HH j) (V j) (HH (j + 1)))
    (wf : ∀ i, i ≤ ops.size → ∀ b, (HH i).blk b ≠ none → b < (HH i).next)
    {φ0 : Phi} {w0 : World} {L : Nat → Prop} {a : Act} {w : World} {p q : Nat} {φ : Phi} (I : Inv P ce ops nt F HH φ0 w0 L a w p q φ) (hnt : a.tmps.size = nt)
    {o : Oper} (ho : ops.toList[q]? = some o) (hjL : ¬ L q) (all : ∀ i o, ops.toList[i]? = some o → isFl P o = false → p ≤ i → i < q → L i)
    (hlater : ∀ i o', ops.toList[i]? = some o' → q < i → L i → ∀ t, writesT o t = true → writesT o' t = false)
    {φ' : Phi} {w' : World} {cv : Value} (x : Ext φ (HH q) w φ' (HH (q + 1)) w') (r : VR φ' (HH (q + 1)) (V q) cv) :
    ∃ q', Inv P ce ops nt F HH φ0 w0 (fun i => L i ∨ i = q) (a.put o.dst cv) w' (q + 1) q' φ' := by
  have hq : q < ops.size := by have := (List.getElem?_eq_some_iff.1 ho).1; simpa using this
  refine seg_start hrun wf (by omega) ?_ ?_ x.sim ?_ (I.ext.trans x) (tm_step hdst hrun ho hjL hnt hlater I.tm (fun v u h => h.ext x) r)
  · intro i o' h1 h2 h3
    by_cases hiq : i = q
    · exact .inr hiq
    · by_cases hip : i < p
      · exact .inl (I.done i o' h1 h2 hip)
      · exact .inl (all i o' h1 h2 (by omega) (by omega))
  · intro i o' h1 h2 h3 h4
    rcases h4 with h4 | h4
    · exact I.todo i o' h1 h2 (by omega) h4
    · omega
  · intro b hb0 hb hl
    by_cases h : (HH q).next ≤ b
    · exact x.mapped b h hl
    · obtain ⟨k', hk'⟩ := Option.ne_none_iff_exists'.1 hl
      obtain ⟨k, hk, _⟩ := x.back b (by omega) k' hk'
      rw [x.agree b (by omega) hl]
      exact seg_mapped hrun I all b hb0 (by omega) (by rw [hk]; simp)

/-! ### The game -/

def isIn (listed : Array Bool) (j : Nat) : Prop := listed.getD j false = true

theorem isIn_set {listed : Array Bool} {i : Nat} (hi : i < listed.size) : isIn (listed.setIfInBounds i true) = fun j => isIn listed j ∨ j = i := by
  funext j
  apply propext
  simp only [isIn, Array.getD_eq_getD_getElem?, Array.getElem?_setIfInBounds]
  by_cases h : i = j
  · subst h; simp [hi]
  · simp [h, show ¬ j = i from fun e => h e.symm]

def left (listed : Array Bool) : Nat := listed.toList.count false

theorem left_set {listed : Array Bool} {i : Nat} (hi : i < listed.size) (h : ¬ isIn listed i) : left (listed.setIfInBounds i true) + 1 = left listed := by
  have hv : listed.toList[i]'(by simpa using hi) = false := by
    simp only [isIn, Array.getD_eq_getD_getElem?, Array.getElem?_eq_getElem hi, Option.getD_some] at h
    simpa using h
  have hpos : 0 < listed.toList.count false := List.count_pos_iff.2 (by rw [← hv]; exact List.getElem_mem _)
  unfold left
  rw [Array.toList_setIfInBounds, List.count_set (by simpa using hi), hv]
  change listed.toList.count false - 1 + 0 + 1 = _
  omega

theorem left_zero {listed : Array Bool} (h : left listed = 0) (j : Nat) (hj : j < listed.size) : isIn listed j := by
  unfold left at h
  rw [List.count_eq_zero] at h
  simp only [isIn, Array.getD_eq_getD_getElem?, Array.getElem?_eq_getElem hj, Option.getD_some]
  cases hb : listed[j] with
  | true => rfl
  | false => exact absurd (by rw [← hb]; simp) h

def Closed (ops : Array Oper) (L : Nat → Prop) : Prop := ∀ j o, L j → ops.toList[j]? = some o → ∀ e ∈ o.after.toList, Region.binds .any e = true → L e.on

theorem mem_ready {listed : Array Bool} {i : Nat} (hsz : listed.size = ops.size) : i ∈ Region.ready .any ops listed ↔
    i < ops.size ∧ ¬ isIn listed i ∧ ∀ o, ops.toList[i]? = some o → ∀ e ∈ o.after.toList, Region.binds .any e = true → isIn listed e.on := by
  unfold Region.ready
  rw [List.mem_filter]
  simp only [List.mem_range, Bool.and_eq_true, isIn]
  constructor
  · rintro ⟨h1, h2, h3⟩
    refine ⟨h1, ?_, fun o ho e he hb => ?_⟩
    · rw [Array.getD_eq_getD_getElem?, Array.getElem?_eq_getElem (by omega)] at h2 ⊢
      simp at h2 ⊢
      exact h2
    · have ho' : ops[i]? = some o := by simpa using ho
      rw [ho'] at h3
      simp only [Option.map_some, Option.getD_some, Array.all_eq_true_iff_forall_mem] at h3
      have := h3 e (by simpa using he)
      simpa [hb] using this
  · rintro ⟨h1, h2, h3⟩
    refine ⟨h1, ?_, ?_⟩
    · rw [Array.getD_eq_getD_getElem?, Array.getElem?_eq_getElem (by omega)] at h2 ⊢
      simp at h2 ⊢
      exact h2
    · have ho : ops[i]? = some (ops[i]) := by simp [h1]
      rw [ho]
      simp only [Option.map_some, Option.getD_some, Array.all_eq_true_iff_forall_mem]
      intro e he
      have := h3 (ops[i]) (by simp) e (by simpa using he)
      cases hb : Region.binds .any e with
      | false => rfl
      | true => simpa [hb] using this hb

theorem none_ready {listed : Array Bool} (hsz : listed.size = ops.size) (hd : drawOkF P ce ops.toList = true) (h : Region.ready .any ops listed = []) : ∀ j, j < ops.size → isIn listed j := by
  intro j
  induction j using Nat.strongRecOn with
  | _ j ih =>
    intro hj
    apply Classical.byContradiction
    intro hn
    have : j ∈ Region.ready .any ops listed := (mem_ready hsz).2 ⟨hj, hn, fun o ho e he hb => by
      have := drawOkF_edge hd ho he hb
      exact ih e.on this (by omega)⟩
    rw [h] at this
    cases this

theorem game_step (hd : drawOkF P ce ops.toList = true) (hdst : dstsOk nt ops.toList = true)
    (hrun : ∀ j o, ops.toList[j]? = some o → F (j + 1) = (F j).put o.dst (V j) ∧ RunAt ce P ops.toList o (F j) (HH j) (V j) (HH (j + 1)))
    (wf : ∀ i, i ≤ ops.size → ∀ b, (HH i).blk b ≠ none → b < (HH i).next) (nx : ∀ i, i ≤ ops.size → (HH 0).next ≤ (HH i).next)
    (scF : ∀ i t, i ≤ ops.size → Sc (HH i).next (F i t))
    (hld : ∀ j o, ops.toList[j]? = some o → isLd o = true → ∀ i oi, j < i → ops.toList[i]? = some oi → isE ce oi.op = true → mayWait ce ops.toList (masks ops.toList) j i →
      denOp P o (aev (F j)) (fun v' H' => v' = V j ∧ H' = HH (i + 1)) (HH (i + 1)))
    (hld2 : ∀ j o, ops.toList[j]? = some o → isLd o = true → ∀ i oi, i < j → ops.toList[i]? = some oi → isE ce oi.op = true → ((masks ops.toList).getD j 0).testBit i = false →
      denOp P o (aev (F j)) (fun v' H' => v' = V j ∧ H' = HH i) (HH i)) {φ0 : Phi} {w0 : World} :
    ∀ (listed : Array Bool) (a : Act) (w : World) (p q : Nat) (φ : Phi), listed.size = ops.size → Closed ops (isIn listed) → a.tmps.size = nt → a.defers = [] → Inv P ce ops nt F HH φ0 w0 (isIn listed) a w p q φ →
      ∀ i, i ∈ Region.ready .any ops listed → ∀ Q : Exit → Act → World → Prop, wpOp P ops Q i (fun a' w' => ∃ p' q' φ', Inv P ce ops nt F HH φ0 w0 (fun m => isIn listed m ∨ m = i) a' w' p' q' φ' ∧ Keep φ w φ' w' ∧ a'.tmps.size = nt ∧ a'.defers = [] ∧ ∃ o cv, ops.toList[i]? = some o ∧ a' = a.put o.dst cv) a w := by
  intro listed a w p q φ hsz hcl hnt hdf I i hi Q
  obtain ⟨hin, hiL, hie⟩ := (mem_ready hsz).1 hi
  have ho : ops.toList[i]? = some (ops[i]) := by simp [hin]
  have hisz : i < listed.size := by omega
  generalize hoo : ops[i] = o at ho
  have hset := isIn_set hisz
  have hcl' : Closed ops (isIn (listed.setIfInBounds i true)) := by
    rw [hset]
    intro j o' hj ho' e he hb
    rcases hj with hj | hj
    · exact .inl (hcl j o' hj ho' e he hb)
    · subst hj; exact .inl (hie o' ho' e he hb)
  -- what clashes and comes earlier is done
  have before : ∀ m om, ops.toList[m]? = some om → m < i → clashF P ce ops.toList om o = true → isIn listed m := fun m om hm hmi hc => by
    have := masks_spec hcl' i (by rw [hset]; exact .inr rfl) m (drawOkF_clash hd hm ho hmi hc)
    rw [hset] at this
    exact this.elim id fun e => by omega
  have behind : ∀ m om, ops.toList[m]? = some om → i < m → clashF P ce ops.toList o om = true → ¬ isIn listed m := fun m om hm him hc hL =>
    hiL (masks_spec hcl m hL i (drawOkF_clash hd ho hm him hc))
  have hlater : ∀ m o', ops.toList[m]? = some o' → i < m → isIn listed m → ∀ t, writesT o t = true → writesT o' t = false := fun m o' hm him hL t ht => by
    cases hw : writesT o' t with
    | false => rfl
    | true =>
      refine absurd hL (behind m o' hm him ?_)
      unfold writesT at hw
      cases hdd : o'.dst with
      | none => rw [hdd] at hw; cases hw
      | some d =>
        rw [hdd] at hw
        have := Nat.eq_of_beq_eq_true hw
        subst this
        simp [clashF, hdd, ht]
  have valid : ∀ t, t ∈ mentions ops.toList o → Valid ops (isIn listed) t i := fun t ht => by
    refine ⟨fun m om hm hmi hw => before m om hm hmi ?_, fun m om hm him hw hL => ?_⟩
    · have : (mentions ops.toList o).any (writesT om) = true := List.any_eq_true.2 ⟨t, ht, hw⟩
      simp [clashF, this]
    · by_cases e : m = i
      · subst e; exact hiL hL
      · refine behind m om hm (by omega) ?_ hL
        have : (mentions ops.toList o).any (writesT om) = true := List.any_eq_true.2 ⟨t, ht, hw⟩
        simp [clashF, this]
  have slots : ∀ t, t ∈ mentions ops.toList o → VR φ (HH q) (F i t) (a.tmps.getD t undef) := fun t ht => I.tm t i (by omega) (valid t ht)
  have opnd : ∀ x, x ∈ o.op.operands.toList → VR φ (HH q) (aev (F i) x) (a.eval x) := fun x hx => by
    cases x with
    | tmp t =>
      refine slots t (List.mem_append_left _ (List.mem_filterMap.2 ⟨_, hx, rfl⟩))
    | const v =>
      simp only [aev, cst, Act.eval]
      split
      · exact plainV_VR (by assumption)
      · exact .junk _
    | global g => exact .junk _
    | func f => exact .func f #[] #[] #[] #[] rfl rfl (fun i h => by simp at h) (fun i h => by simp at h)
  have grd : ∀ j want t, o.guard = some (j, want) → guardTmp ops.toList j = some t → VR φ (HH q) (F i t) (a.tmps.getD t undef) := fun j want t h1 h2 => by
    refine slots t (List.mem_append_right _ ?_)
    rw [h1]
    simp [h2]
  -- what comes behind the operation
  have go : ∀ (cv : Value) (w' : World) (p' q' : Nat) (φ' : Phi), Inv P ce ops nt F HH φ0 w0 (fun m => isIn listed m ∨ m = i) (a.put o.dst cv) w' p' q' φ' → Keep φ w φ' w' →
      ∃ p' q' φ', Inv P ce ops nt F HH φ0 w0 (fun m => isIn listed m ∨ m = i) (a.put o.dst cv) w' p' q' φ' ∧ Keep φ w φ' w' ∧ (a.put o.dst cv).tmps.size = nt ∧ (a.put o.dst cv).defers = [] ∧ ∃ o' cv', ops.toList[i]? = some o' ∧ a.put o.dst cv = a.put o'.dst cv' := fun cv w' p' q' φ' J kp =>
    ⟨p', q', φ', J, kp, by rw [put_size]; exact hnt, by rw [put_defers]; exact hdf, o, cv, ho, rfl⟩
  have ho2 : ops[i]? = some o := by simpa using ho
  unfold wpOp
  rw [ho2]
  simp only []
  obtain ⟨hF, hr⟩ := hrun i o ho
  cases hpu : isPure P o.op with
  | true =>
    refine ((hr.pure hpu).2 (HH q)).wpOp I.sim opnd grd fun φ' w' cv x r => ?_
    exact go cv w' p q φ' (inv_float hdst hrun I hnt ho hiL (.inl hpu) hlater x r) (Keep.ext I.sim x)
  | false =>
    by_cases hlate : isLd o = true ∧ i < p
    · -- a load that comes late
      obtain ⟨hl, hip⟩ := hlate
      have hqn := I.qn
      have hpq := I.pq
      -- the last write ahead of p
      have last : ∀ d, i + d < p → (∃ m om, i < m ∧ m ≤ i + d ∧ ops.toList[m]? = some om ∧ isE ce om.op = true ∧ ∀ m' o', ops.toList[m']? = some o' → m < m' → m' ≤ i + d → isE ce o'.op = false) ∨
          ∀ m' o', ops.toList[m']? = some o' → i < m' → m' ≤ i + d → isE ce o'.op = false := by
        intro d
        induction d with
        | zero => intro _; exact .inr fun m' o' _ h1 h2 => by omega
        | succ d ihd =>
          intro hd'
          have hm : ops.toList[i + (d + 1)]? = some (ops[i + (d + 1)]'(by omega)) := by simp
          cases hE : isE ce (ops[i + (d + 1)]'(by omega)).op with
          | true => exact .inl ⟨_, _, by omega, Nat.le_refl _, hm, hE, fun m' o' _ h1 h2 => by omega⟩
          | false =>
            rcases ihd (by omega) with ⟨m, om, h1, h2, h3, h4, h5⟩ | h
            · refine .inl ⟨m, om, h1, by omega, h3, h4, fun m' o' hm' h6 h7 => ?_⟩
              by_cases e : m' = i + (d + 1)
              · subst e; rw [hm] at hm'; cases hm'; exact hE
              · exact h5 m' o' hm' h6 (by omega)
            · refine .inr fun m' o' hm' h6 h7 => ?_
              by_cases e : m' = i + (d + 1)
              · subst e; rw [hm] at hm'; cases hm'; exact hE
              · exact h m' o' hm' h6 (by omega)
      have wait : ∀ m, m < p → mayWait ce ops.toList (masks ops.toList) i m := fun m hm i' o' hi' h1 h2 hE => by
        cases hb : ((masks ops.toList).getD i' 0).testBit i with
        | false => rfl
        | true =>
          have hdone : isIn listed i' := I.done i' o' hi' (by
            unfold isFl
            rw [isE_pure hE]
            cases hl' : isLd o' with
            | false => rfl
            | true => rw [isLd_E hl'] at hE; cases hE) (by omega)
          exact absurd (masks_spec hcl i' hdone i hb) hiL
      have at2 : denOp P o (aev (F i)) (fun v' H' => v' = V i ∧ H' = HH q) (HH q) := by
        rcases last (p - 1 - i) (by omega) with ⟨m, om, h1, h2, h3, h4, h5⟩ | h
        · have hc := hld i o ho hl m om h1 h3 h4 (wait m (by omega))
          refine denOp_ld_up hl (wf (m + 1) (by omega)) ?_ hc
          exact seg_le' hrun (p := m + 1) (q := q) hqn (fun i' o' hi' g1 g2 => by
            rcases Nat.lt_or_ge i' p with g | g
            · exact h5 i' o' hi' (by omega) (by omega)
            · exact I.noE i' o' hi' g g2) (Nat.le_refl _) (by omega) (Nat.le_refl _)
        · -- nothing has written since
          have hle : (HH i).Le (HH q) := seg_le' hrun (p := i) (q := q) hqn (fun i' o' hi' g1 g2 => by
            by_cases e : i' = i
            · subst e; rw [ho] at hi'; cases hi'; exact isLd_E hl
            · rcases Nat.lt_or_ge i' p with g | g
              · exact h i' o' hi' (by omega) (by omega)
              · exact I.noE i' o' hi' g g2) (Nat.le_refl _) (by omega) (Nat.le_refl _)
          exact hr.lds hl (HH q) hle (wf i (by omega))
      obtain ⟨v', H', ⟨rfl, rfl⟩, hs⟩ := denOp_sound at2
      have gs : GStep P ops.toList o (F i) (HH q) (V i) (HH q) := .inl ⟨hs, .inl (isLd_spec hl).1⟩
      refine gs.wpOp I.sim opnd grd fun φ' w' cv x r => ?_
      exact go cv w' p q φ' (inv_float hdst hrun I hnt ho hiL (.inr hl) hlater x r) (Keep.ext I.sim x)
    by_cases hearly : isLd o = true ∧ q < i
    · -- a load that comes early
      obtain ⟨hl, hqi⟩ := hearly
      have hoq : ops.toList[q]? = some (ops[q]'(by omega)) := by simp
      have hbit : ((masks ops.toList).getD i 0).testBit q = false := by
        cases hb : ((masks ops.toList).getD i 0).testBit q with
        | false => rfl
        | true =>
          have := masks_spec hcl' i (by rw [hset]; exact .inr rfl) q hb
          rw [hset] at this
          rcases this with h | h
          · exact absurd h (I.todo q _ hoq (isE_fl (I.atE _ hoq)) (Nat.le_refl _))
          · omega
      have at2 := hld2 i o ho hl q _ hqi hoq (I.atE _ hoq) hbit
      obtain ⟨v', H', ⟨rfl, rfl⟩, hs⟩ := denOp_sound at2
      have gs : GStep P ops.toList o (F i) (HH q) (V i) (HH q) := .inl ⟨hs, .inl (isLd_spec hl).1⟩
      refine gs.wpOp I.sim opnd grd fun φ' w' cv x r => ?_
      exact go cv w' p q φ' (inv_float hdst hrun I hnt ho hiL (.inr hl) hlater x r) (Keep.ext I.sim x)
    have hpi : p ≤ i := by
      rcases Nat.lt_or_ge i p with h | h
      · refine absurd (I.done i o ho ?_ h) hiL
        unfold isFl
        rw [hpu]
        cases hl : isLd o with
        | false => rfl
        | true => exact absurd ⟨hl, h⟩ hlate
      · exact h
    have hiq : i ≤ q := by
      rcases Nat.lt_or_ge q i with h | h
      · have hoq : ops.toList[q]? = some (ops[q]'(by omega)) := by simp
        refine absurd (before q _ hoq h ?_) (I.todo q _ hoq (isE_fl (I.atE _ hoq)) (Nat.le_refl _))
        have hnl : isLd o = false := by
          cases hl : isLd o with
          | false => rfl
          | true => exact absurd ⟨hl, h⟩ hearly
        simp [clashF, I.atE _ hoq, hpu, hnl]
      · exact h
    cases hE : isE ce o.op with
    | false =>
      have hlt : i < q := by
        rcases Nat.lt_or_ge i q with h | h
        · exact h
        · have e : i = q := by omega
          subst e
          rw [I.atE _ ho] at hE; cases hE
      have le0 : (HH i).Le (HH q) := seg_le' hrun I.qn I.noE hpi hiq (Nat.le_refl _)
      have dn : ∀ v u, Sc (HH i).next v → VR φ (HH q) v u → VR (fun b => if b < (HH i).next then φ b else none) (HH i) v u := fun v u hs hv =>
        hv.down hs fun b hb k1 hk1 => ⟨k1, by rw [le0.blk b hb]; exact hk1, rfl, by simp [hb]⟩
      have opnd' : ∀ x, x ∈ o.op.operands.toList → VR (fun b => if b < (HH i).next then φ b else none) (HH i) (aev (F i) x) (a.eval x) := fun x hx => by
        have h0 := opnd x hx
        cases x with
        | tmp t => exact dn _ _ (scF i t (by omega)) h0
        | const v =>
          simp only [aev, cst, Act.eval]
          split
          · exact plainV_VR (by assumption)
          · exact .junk _
        | global g => exact .junk _
        | func f => exact .func f #[] #[] #[] #[] rfl rfl (fun i h => by simp at h) (fun i h => by simp at h)
      refine hr.g.wpOp (I.sim.down (Nat.le_trans I.ext.big (nx i (by omega))) le0 (wf i (by omega)) (fun b k hb hk => I.sc i b k hpi hiq hb hk)) opnd'
        (fun j want t h1 h2 => dn _ _ (scF i t (by omega)) (grd j want t h1 h2)) fun φ' w' cv x r => ?_
      obtain ⟨φn, J, hφn⟩ := inv_calm hdst hrun wf nx I hnt ho hiL hpi hlt hpu hlater x r
      have kx := Keep.ext (I.sim.down (Nat.le_trans I.ext.big (nx i (by omega))) le0 (wf i (by omega)) (fun b k hb hk => I.sc i b k hpi hiq hb hk)) x
      have kn : ∀ cb, (∀ b r, φ b ≠ some (cb, r)) → ∀ b r, (if b < (HH i).next then φ b else none) ≠ some (cb, r) := fun cb hn b r hb => by
        split at hb
        · exact hn b r hb
        · cases hb
      exact go cv w' p q φn J ⟨kx.1, fun cb hcb hn => ⟨fun b r hb => (hφn b cb r hb).elim (hn b r) ((kx.2 cb hcb (kn cb hn)).1 b r), (kx.2 cb hcb (kn cb hn)).2⟩⟩
    | true =>
      have e : i = q := by
        rcases Nat.lt_or_ge i q with h | h
        · have := I.noE i o ho hpi h
          rw [hE] at this; cases this
        · omega
      subst e
      refine hr.g.wpOp I.sim opnd grd fun φ' w' cv x r => ?_
      obtain ⟨q', J⟩ := inv_E hdst hrun wf I hnt ho hiL (fun m om hm hmp _ hmi => before m om hm hmi (by unfold isFl at hmp; simp [clashF, hmp, hE])) hlater x r
      exact go cv w' _ q' φ' J (Keep.ext I.sim x)

theorem game (hd : drawOkF P ce ops.toList = true) (hdst : dstsOk nt ops.toList = true)
    (hrun : ∀ j o, ops.toList[j]? = some o → F (j + 1) = (F j).put o.dst (V j) ∧ RunAt ce P ops.toList o (F j) (HH j) (V j) (HH (j + 1)))
    (wf : ∀ i, i ≤ ops.size → ∀ b, (HH i).blk b ≠ none → b < (HH i).next) (nx : ∀ i, i ≤ ops.size → (HH 0).next ≤ (HH i).next)
    (scF : ∀ i t, i ≤ ops.size → Sc (HH i).next (F i t))
    (hld : ∀ j o, ops.toList[j]? = some o → isLd o = true → ∀ i oi, j < i → ops.toList[i]? = some oi → isE ce oi.op = true → mayWait ce ops.toList (masks ops.toList) j i →
      denOp P o (aev (F j)) (fun v' H' => v' = V j ∧ H' = HH (i + 1)) (HH (i + 1)))
    (hld2 : ∀ j o, ops.toList[j]? = some o → isLd o = true → ∀ i oi, i < j → ops.toList[i]? = some oi → isE ce oi.op = true → ((masks ops.toList).getD j 0).testBit i = false →
      denOp P o (aev (F j)) (fun v' H' => v' = V j ∧ H' = HH i) (HH i)) {φ0 : Phi} {w0 : World} :
    ∀ (fuel : Nat) (listed : Array Bool) (a : Act) (w : World) (p q : Nat) (φ : Phi), left listed = fuel → listed.size = ops.size → Closed ops (isIn listed) → a.tmps.size = nt → a.defers = [] →
      Inv P ce ops nt F HH φ0 w0 (isIn listed) a w p q φ →
      wpAny P .any ops (fun e' a' w' => e' = .normal ∧ a'.defers = [] ∧ a'.tmps.size = nt ∧ ∃ φ', Ext φ0 (HH 0) w0 φ' (HH ops.size) w' ∧ FR φ' (HH ops.size) (F ops.size) a'.tmps) fuel listed a w := by
  have fin : ∀ (listed : Array Bool) (a : Act) (w : World) (p q : Nat) (φ : Phi), listed.size = ops.size → a.tmps.size = nt → a.defers = [] →
      Inv P ce ops nt F HH φ0 w0 (isIn listed) a w p q φ → (∀ j, j < ops.size → isIn listed j) →
      (.normal : Exit) = .normal ∧ a.defers = [] ∧ a.tmps.size = nt ∧ ∃ φ', Ext φ0 (HH 0) w0 φ' (HH ops.size) w ∧ FR φ' (HH ops.size) (F ops.size) a.tmps := by
    intro listed a w p q φ hsz hnt hdf I all
    have hq : q = ops.size := by
      have := I.qn
      rcases Nat.lt_or_ge q ops.size with h | h
      · exfalso
        have ho : ops.toList[q]? = some (ops[q]) := by simp [h]
        exact I.todo q _ ho (isE_fl (I.atE _ ho)) (Nat.le_refl _) (all q h)
      · omega
    subst hq
    refine ⟨rfl, hdf, hnt, φ, ⟨I.sim, I.ext.next, I.ext.back, I.ext.agree, fun b hb hl => ?_, I.ext.fresh, I.ext.frame, I.ext.size, I.ext.os, I.ext.tape, I.ext.output⟩, fun t => ?_⟩
    · exact seg_mapped hrun I (fun i o _ _ _ hi => all i hi) b hb (I.sim.wf b hl) hl
    · refine I.tm t _ (Nat.le_refl _) ⟨fun j o _ hj _ => all j hj, fun j o ho hj _ => ?_⟩
      have := (List.getElem?_eq_some_iff.1 ho).1
      simp at this
      omega
  intro fuel
  induction fuel with
  | zero =>
    intro listed a w p q φ hl hsz hcl hnt hdf I
    have all := fun j hj => left_zero hl j (by rw [hsz]; exact hj)
    refine ⟨?_, fin listed a w p q φ hsz hnt hdf I all⟩
    cases hr : Region.ready .any ops listed with
    | nil => rfl
    | cons i l =>
      have := (mem_ready (i := i) hsz).1 (by rw [hr]; simp)
      exact absurd (all i this.1) this.2.1
  | succ fuel ih =>
    intro listed a w p q φ hl hsz hcl hnt hdf I
    refine ⟨fun hr => fin listed a w p q φ hsz hnt hdf I (none_ready hsz hd hr), fun i hi => ?_⟩
    have hisz : i < listed.size := by have := ((mem_ready hsz).1 hi).1; omega
    have hiL := ((mem_ready hsz).1 hi).2.1
    have hie := ((mem_ready hsz).1 hi).2.2
    have hset := isIn_set hisz
    have hcl' : Closed ops (isIn (listed.setIfInBounds i true)) := by
      rw [hset]
      intro j o' hj ho' e he hb
      rcases hj with hj | hj
      · exact .inl (hcl j o' hj ho' e he hb)
      · subst hj; exact .inl (hie o' ho' e he hb)
    refine wpOp_mono (fun a' w' h => ?_) (game_step hd hdst hrun wf nx scF hld hld2 listed a w p q φ hsz hcl hnt hdf I i hi _)
    obtain ⟨p', q', φ', J, _, h1, h2, _⟩ := h
    exact ih _ _ _ p' q' φ' (by have := left_set hisz hiL; omega) (by simp [hsz]) hcl' h1 h2 (by rw [hset]; exact J)

end region

/-- A region that is drawn, by a run in the text's order: whatever order is picked. -/
theorem drawn_any {P : Program} {ops : Array Oper} (nt : Nat) (hd : drawOkF P ce ops.toList = true) (hdst : dstsOk nt ops.toList = true)
    {F : Nat → Frm} {HH : Nat → Heap} {V : Nat → Value}
    (h4 : ∀ j o, 0 ≤ j → ops.toList[j]? = some o → F (j + 1) = (F j).put o.dst (V j) ∧ RunAt ce P ops.toList o (F j) (HH j) (V j) (HH (j + 1)))
    (hld : ∀ j o, ops.toList[j]? = some o → isLd o = true → ∀ i oi, j < i → ops.toList[i]? = some oi → isE ce oi.op = true → mayWait ce ops.toList (masks ops.toList) j i →
      denOp P o (aev (F j)) (fun v' H' => v' = V j ∧ H' = HH (i + 1)) (HH (i + 1)))
    (hld2 : ∀ j o, ops.toList[j]? = some o → isLd o = true → ∀ i oi, i < j → ops.toList[i]? = some oi → isE ce oi.op = true → ((masks ops.toList).getD j 0).testBit i = false →
      denOp P o (aev (F j)) (fun v' H' => v' = V j ∧ H' = HH i) (HH i)) :
    (∀ t, opsDst ops.toList t = false → F ops.size t = F 0 t) ∧ ∀ (φ : Phi) (w : World) (a : Act), Sim φ (HH 0) w → FR φ (HH 0) (F 0) a.tmps → a.tmps.size = nt → a.defers = [] →
      wpAny P .any ops (fun e' a' w' => e' = .normal ∧ a'.defers = [] ∧ a'.tmps.size = nt ∧ ∃ φ', Ext φ (HH 0) w φ' (HH ops.size) w' ∧ FR φ' (HH ops.size) (F ops.size) a'.tmps) ops.size (Array.replicate ops.size false) a { w with drawn := w.drawn + 1 } := by
  have hrun : ∀ j o, ops.toList[j]? = some o → F (j + 1) = (F j).put o.dst (V j) ∧ RunAt ce P ops.toList o (F j) (HH j) (V j) (HH (j + 1)) := fun j o ho => h4 j o (Nat.zero_le _) ho
  refine ⟨fun t ht => ?_, fun φ w a s f hn hdf => ?_⟩
  · have := same_slot hrun t ops.size 0 (by omega) (fun j o ho _ _ => by
      unfold opsDst at ht
      rw [List.any_eq_false] at ht
      have := ht o (List.mem_of_getElem? ho)
      unfold writesT
      cases hdd : o.dst with
      | none => rfl
      | some d =>
        rw [hdd] at this
        simp only at this ⊢
        cases hb : Nat.beq d t with
        | false => rfl
        | true => exact absurd hb this)
    rw [Nat.zero_add] at this
    exact this
  · have s0 := s
    have f0 := f
    have tr := text_run hdst hrun s0 f0 hn
    have wf : ∀ i, i ≤ ops.size → ∀ b, (HH i).blk b ≠ none → b < (HH i).next := fun i hi => let ⟨_, _, _, s, _⟩ := tr i hi; s.wf
    have nx : ∀ i, i ≤ ops.size → (HH 0).next ≤ (HH i).next := fun i hi => let ⟨_, _, _, _, _, _, h⟩ := tr i hi; h
    have scF : ∀ i t, i ≤ ops.size → Sc (HH i).next (F i t) := fun i t hi => let ⟨φ, w, a, _, f, _⟩ := tr i hi; ⟨φ, HH i, _, Nat.le_refl _, f t⟩
    have notIn : ∀ j, ¬ isIn (Array.replicate ops.size false) j := fun j h => by
      simp only [isIn, Array.getD_eq_getD_getElem?, Array.getElem?_replicate] at h
      split at h <;> simp at h
    have s1 := s0.drawn (w.drawn + 1)
    obtain ⟨q, I⟩ := seg_start (nt := nt) (P := P) (a := a) (φ0 := φ) (w0 := w) (L := isIn (Array.replicate ops.size false)) hrun wf (Nat.zero_le _) (fun i o _ _ h => by omega) (fun i o _ _ _ => notIn i) s1
      (fun b hb1 hb2 => by omega) (let x := Ext.refl s1; ⟨s1.big, x.next, x.back, x.agree, x.fresh, x.frame, x.size, x.os, x.tape, x.output⟩) (fun t i hi hv => by
        have := same_slot hrun t i 0 (by omega) (fun j o ho _ hj => by
          cases hw : writesT o t with
          | false => rfl
          | true => exact absurd (hv.1 j o ho (by omega) hw) (notIn j))
        rw [Nat.zero_add] at this
        rw [this]
        exact f0 t)
    exact game hd hdst hrun wf nx scF hld hld2 ops.size (Array.replicate ops.size false) a _ 0 q φ (by simp [left]) (by simp) (fun j o hj => absurd hj (notIn j)) hn hdf I

/-- A region that is drawn, by a run in the text's order. -/
theorem drawn_sound {P : Program} {ops : Array Oper} {K : Frm → Heap → Prop} {id : Nat} (nt : Nat) (hm : P.follows .mixedOrders = true) (hd : drawOkF P ce ops.toList = true) (hdst : dstsOk nt ops.toList = true)
    {fr : Frm} {H : Heap} {F : Nat → Frm} {HH : Nat → Heap} {V : Nat → Value} (h1 : F 0 = fr) (h2 : HH 0 = H) (h3 : K (F ops.toList.length) (HH ops.toList.length))
    (h4 : ∀ j o, 0 ≤ j → ops.toList[j]? = some o → F (j + 1) = (F j).put o.dst (V j) ∧ RunAt ce P ops.toList o (F j) (HH j) (V j) (HH (j + 1)))
    (hld : ∀ j o, ops.toList[j]? = some o → isLd o = true → ∀ i oi, j < i → ops.toList[i]? = some oi → isE ce oi.op = true → mayWait ce ops.toList (masks ops.toList) j i →
      denOp P o (aev (F j)) (fun v' H' => v' = V j ∧ H' = HH (i + 1)) (HH (i + 1)))
    (hld2 : ∀ j o, ops.toList[j]? = some o → isLd o = true → ∀ i oi, i < j → ops.toList[i]? = some oi → isE ce oi.op = true → ((masks ops.toList).getD j 0).testBit i = false →
      denOp P o (aev (F j)) (fun v' H' => v' = V j ∧ H' = HH i) (HH i)) :
    ∃ fr' H', K fr' H' ∧ (∀ t, opsDst ops.toList t = false → fr' t = fr t) ∧ CStep P (.region id ops true) nt fr H .normal fr' H' := by
  subst h1 h2
  obtain ⟨g1, g2⟩ := drawn_any nt hd hdst h4 hld hld2
  rw [show ops.toList.length = ops.size by simp] at h3
  exact ⟨F ops.size, HH ops.size, h3, g1, fun φ w a s f hn hdf => wp_region_any hm (g2 φ w a s f hn hdf)⟩

/-- A region that is drawn, by its text. -/
theorem denOpsQ_sound {P : Program} {ops : Array Oper} {K : Frm → Heap → Prop} {id : Nat} (nt : Nat) (hm : P.follows .mixedOrders = true) (hd : drawOk P ce ops.toList = true) (hdst : dstsOk nt ops.toList = true)
    {fr : Frm} {H : Heap} (h : denOpsQ ce P ops.toList ops.toList K fr H) :
    ∃ fr' H', K fr' H' ∧ (∀ t, opsDst ops.toList t = false → fr' t = fr t) ∧ CStep P (.region id ops true) nt fr H .normal fr' H' := by
  obtain ⟨F, HH, V, h1, h2, h3, h4⟩ := denOpsQ_run ops.toList 0 fr H h (fun i => by simp) (by simp)
  refine drawn_sound nt hm (drawOk_F hd) hdst h1 h2 h3 h4 (fun j o ho hl i oi hji hi hE hw => ?_) fun j o ho hl i oi hij hi hE hb => ?_
  · have hc : clash P ce ops.toList o oi = true := by simp [clash, isLd_pure hl, hE]
    have := drawOk_clash hd ho hi hji hc
    rw [hw i oi hi hji (Nat.le_refl _) hE] at this
    cases this
  · have hc : clash P ce ops.toList oi o = true := by simp [clash, isLd_pure hl, hE]
    have := drawOk_clash hd hi ho hij hc
    rw [hb] at this
    cases this

/-- The same where loads may come late. -/
theorem denOpsF_sound {P : Program} {ops : Array Oper} {K : Frm → Heap → Prop} {id : Nat} (nt : Nat) (hm : P.follows .mixedOrders = true) (hd : drawOkF P ce ops.toList = true) (hdst : dstsOk nt ops.toList = true)
    {fr : Frm} {H : Heap} (h : denOpsF ce P ops.toList (masks ops.toList) ops.toList 0 [] [] K fr H) :
    ∃ fr' H', K fr' H' ∧ (∀ t, opsDst ops.toList t = false → fr' t = fr t) ∧ CStep P (.region id ops true) nt fr H .normal fr' H' := by
  obtain ⟨F, HH, V, h1, h2, h3, h4, _, h6, _, h8⟩ := denOpsF_run ops.toList 0 [] [] fr H h (fun i => by simp) (by simp)
  exact drawn_sound nt hm hd hdst h1 h2 h3 h4 (fun j o ho hl i oi hji hi hE hw => h6 j o (Nat.zero_le _) ho hl i oi hji hi hE hw) fun j o ho hl i oi hij hi hE hb => h8 j o (Nat.zero_le _) ho hl i oi (Nat.zero_le _) hij hi hE hb

end Go.Ab

/-! A region that is drawn, and whose last operation is a call that needs all the others: it may write what was. -/
namespace Go.Ab
variable {P : Program}

theorem wpOp_exits {P : Program} {ops ops' : Array Oper} {Q Q' : Exit → Act → World → Prop} {i : Nat} {K K' : Act → World → Prop} (h : ∀ a w, K a w → K' a w) (hp : ∀ c a w, Q (.panic c) a w → Q' (.panic c) a w) (ho : ∀ a w, Q .outgrown a w → Q' .outgrown a w)
    (hi : ops[i]? = ops'[i]?) (hy : ∀ o, ops[i]? = some o → ∀ tmps, Region.wanted o (yielded ops tmps) = Region.wanted o (yielded ops' tmps)) {a : Act} {w : World} (hh : wpOp P ops Q i K a w) : wpOp P ops' Q' i K' a w := by
  unfold wpOp at *
  rw [← hi]
  cases ho' : ops[i]? with
  | none => simp only [ho'] at hh ⊢; exact h _ _ hh
  | some o =>
    simp only [ho'] at hh ⊢
    rw [← hy o ho']
    split
    · rename_i hw
      rw [if_pos hw] at hh
      rcases hh with hh | ⟨h1, a0, w0, h2⟩
      · left
        unfold Oper.wp at hh ⊢
        generalize (execOp a.eval o).run P w = r at hh ⊢
        cases r with
        | ok n w' =>
          cases n <;> simp only [Oper.upon] at hh ⊢ <;>
            first
              | exact h _ _ hh
              | exact Calls.mono hh (fun e w'' he => by cases e <;> first | exact h _ _ he | exact hp _ _ _ he | exact he.imp fun a g => g.imp fun w g => ho _ _ g)
              | exact Rows.mono hh (fun _ _ he => h _ _ he)
              | exact hh
        | halt x w' => cases x <;> simp only [Oper.upon] at hh ⊢ <;> first | exact hp _ _ _ hh | exact hh
      · exact .inr ⟨h1, a0, w0, ho _ _ h2⟩
    · rename_i hw
      rw [if_neg hw] at hh
      exact h _ _ hh

theorem wpAny_mono2 {P : Program} {ops : Array Oper} {Q Q' : Exit → Act → World → Prop} (h : ∀ e a w, Q e a w → Q' e a w) : ∀ (fuel : Nat) (listed : Array Bool) (a : Act) (w : World), wpAny P .any ops Q fuel listed a w → wpAny P .any ops Q' fuel listed a w
  | 0, _, _, _, hh => ⟨hh.1, h _ _ _ hh.2⟩
  | fuel + 1, _, _, _, hh => ⟨fun hr => h _ _ _ (hh.1 hr), fun i hi => wpOp_exits (fun a w => wpAny_mono2 h fuel _ a w) (fun c a w => h _ a w) (fun a w => h _ a w) rfl (fun _ _ _ => rfl) (hh.2 i hi)⟩

/-- What is left to do behind all but the last operation. -/
def lastQ (P : Program) (ops : Array Oper) (n : Nat) (Q : Exit → Act → World → Prop) : Exit → Act → World → Prop := fun e a w => match e with | .normal => wpOp P ops Q n (Q .normal) a w | e => Q e a w

theorem isIn_push {listed : Array Bool} {j : Nat} : isIn (listed.push false) j ↔ isIn listed j := by
  simp only [isIn, Array.getD_eq_getD_getElem?, Array.getElem?_push]
  by_cases h : j = listed.size
  · subst h; simp
  · rw [if_neg h]

theorem set_push {listed : Array Bool} {i : Nat} (hi : i < listed.size) : (listed.push false).setIfInBounds i true = (listed.setIfInBounds i true).push false := by
  apply Array.ext_getElem?
  intro j
  simp only [Array.getElem?_setIfInBounds, Array.getElem?_push, Array.size_push, Array.size_setIfInBounds]
  by_cases h1 : i = j
  · subst h1
    rw [if_pos rfl, if_pos (by omega), if_neg (by omega), if_pos rfl, if_pos hi]
  · rw [if_neg h1, if_neg h1]

theorem isIn_lt {listed : Array Bool} {j : Nat} (h : isIn listed j) : j < listed.size := by
  rcases Nat.lt_or_ge j listed.size with h1 | h1
  · exact h1
  · simp [isIn, Array.getD_eq_getD_getElem?, Array.getElem?_eq_none h1] at h

theorem left_all {listed : Array Bool} (h : ∀ j, j < listed.size → isIn listed j) : left listed = 0 := by
  unfold left
  rw [List.count_eq_zero]
  intro hm
  obtain ⟨j, hj, e⟩ := List.mem_iff_getElem.1 hm
  have := h j (by simpa using hj)
  simp only [isIn, Array.getD_eq_getD_getElem?] at this
  rw [Array.getElem?_eq_getElem (by simpa using hj)] at this
  simp only [Option.getD_some] at this
  have e' : listed[j]'(by simpa using hj) = false := by simpa using e
  rw [e'] at this
  cases this

theorem wpAny_last {P : Program} {pre : Array Oper} {o : Oper} {Q : Exit → Act → World → Prop} (hnr : ∀ listed : Array Bool, listed.size = pre.size → Region.ready .any pre listed = [] → ∀ j, j < pre.size → isIn listed j) (he : ∀ e ∈ o.after.toList, Region.binds .any e = true → e.on < pre.size)
    (hall : ∀ j, j < pre.size → ((masks (pre.push o).toList).getD pre.size 0).testBit j = true) (hgd : ∀ x, x ∈ pre.toList → ∀ j want, x.guard = some (j, want) → j < pre.size) :
    ∀ (fuel : Nat) (listed : Array Bool) (a : Act) (w : World), left listed = fuel → listed.size = pre.size → Closed pre (isIn listed) → wpAny P .any pre (lastQ P (pre.push o) pre.size Q) fuel listed a w → wpAny P .any (pre.push o) Q (fuel + 1) (listed.push false) a w := by
  have hat : ∀ j, j < pre.size → (pre.push o)[j]? = pre[j]? := fun j hj => by rw [Array.getElem?_push, if_neg (by omega)]
  have hatL : ∀ j, j < pre.size → (pre.push o).toList[j]? = pre.toList[j]? := fun j hj => by rw [Array.getElem?_toList, Array.getElem?_toList]; exact hat j hj
  have hlast : (pre.push o).toList[pre.size]? = some o := by simp
  intro fuel
  induction fuel with
  | zero =>
    intro listed a w hl hsz hcl h
    have all : ∀ j, j < pre.size → isIn listed j := fun j hj => left_zero hl j (by omega)
    have hn : ¬ isIn (listed.push false) pre.size := fun h => by have := isIn_lt (isIn_push.1 h); omega
    refine ⟨fun hr => ?_, fun i hi => ?_⟩
    · have : pre.size ∈ Region.ready .any (pre.push o) (listed.push false) := (mem_ready (by simp [hsz])).2 ⟨by simp, hn, fun o' ho' e he' hb => by
        rw [hlast] at ho'
        cases ho'
        exact isIn_push.2 (all _ (he e he' hb))⟩
      rw [hr] at this
      cases this
    · obtain ⟨h1, h2, _⟩ := (mem_ready (by simp [hsz])).1 hi
      have e1 : i = pre.size := by
        rcases Nat.lt_or_ge i pre.size with g | g
        · exact absurd (isIn_push.2 (all i g)) h2
        · simp at h1; omega
      subst e1
      have h3 := h.2
      simp only [lastQ] at h3
      refine wpOp_mono (fun a w hq => ⟨?_, hq⟩) h3
      cases hr : Region.ready .any (pre.push o) ((listed.push false).setIfInBounds pre.size true) with
      | nil => rfl
      | cons x l =>
        have hx := (mem_ready (ops := pre.push o) (listed := (listed.push false).setIfInBounds pre.size true) (i := x) (by simp [hsz])).1 (by rw [hr]; simp)
        refine absurd ?_ hx.2.1
        rw [isIn_set (by simp [hsz])]
        have : x < pre.size + 1 := by simpa using hx.1
        rcases Nat.lt_or_ge x pre.size with g | g
        · exact .inl (isIn_push.2 (all x g))
        · exact .inr (by omega)
  | succ fuel ih =>
    intro listed a w hl hsz hcl h
    have up : ∀ i, i ∈ Region.ready .any pre listed → i ∈ Region.ready .any (pre.push o) (listed.push false) := fun i hi => by
      obtain ⟨h1, h2, h3⟩ := (mem_ready hsz).1 hi
      refine (mem_ready (by simp [hsz])).2 ⟨by simp; omega, fun g => h2 (isIn_push.1 g), fun o' ho' e he' hb => isIn_push.2 (h3 o' ?_ e he' hb)⟩
      rw [← hatL i h1]
      exact ho'
    refine ⟨fun hr => ?_, fun i hi => ?_⟩
    · exfalso
      have : Region.ready .any pre listed = [] := by
        cases hp : Region.ready .any pre listed with
        | nil => rfl
        | cons x l =>
          have := up x (by rw [hp]; simp)
          rw [hr] at this
          cases this
      have all := hnr listed hsz this
      have := left_all (listed := listed) fun j hj => all j (by omega)
      omega
    · obtain ⟨h1, h2, h3⟩ := (mem_ready (by simp [hsz])).1 hi
      rcases Nat.lt_or_ge i pre.size with g | g
      · have hip : i ∈ Region.ready .any pre listed := (mem_ready hsz).2 ⟨g, fun q => h2 (isIn_push.2 q), fun o' ho' e he' hb => isIn_push.1 (h3 o' (by rw [hatL i g]; exact ho') e he' hb)⟩
        obtain ⟨_, hnl, hedge⟩ := (mem_ready hsz).1 hip
        rw [set_push (by omega)]
        refine wpOp_exits (ops := pre) (fun a w hk => ih _ a w ?_ (by simp [hsz]) ?_ hk) (fun c a w hq => hq) (fun a w hq => hq) (hat i g).symm (fun x hx tmps => ?_) (h.2 i hip)
        · have := left_set (by omega) hnl
          omega
        · rw [isIn_set (by omega)]
          intro j o' hj ho' e he' hb
          rcases hj with hj | hj
          · exact .inl (hcl j o' hj ho' e he' hb)
          · subst hj; exact .inl (hedge o' ho' e he' hb)
        · unfold Region.wanted
          cases hg : x.guard with
          | none => rfl
          | some q =>
            obtain ⟨j, want⟩ := q
            have hj := hgd x (List.mem_of_getElem? (i := i) (by simpa using hx)) j want hg
            simp only [yielded, hat j hj]
      · exfalso
        have e1 : i = pre.size := by simp at h1; omega
        subst e1
        have hcl2 : ∀ j o', (isIn listed j ∨ j = pre.size) → (pre.push o).toList[j]? = some o' → ∀ e ∈ o'.after.toList, Region.binds .any e = true → (isIn listed e.on ∨ e.on = pre.size) := fun j o' hj ho' e he' hb => by
          rcases hj with hj | hj
          · have hlt := isIn_lt hj
            rw [hatL j (by omega)] at ho'
            exact .inl (hcl j o' hj ho' e he' hb)
          · subst hj
            exact .inl (isIn_push.1 (h3 o' ho' e he' hb))
        have all : ∀ j, j < listed.size → isIn listed j := fun j hj => by
          have := masks_spec hcl2 pre.size (.inr rfl) j (hall j (by omega))
          exact this.elim id fun e => by omega
        have := left_all all
        omega

/-- The last operation is a call that needs all the others. -/
def drawLast (P : Program) (ops : List Oper) : Bool :=
  match ops.getLast? with
  | some o => isCallV o.op && o.guard.isNone && drawOk P false ops.dropLast && (o.after.toList.all fun e => !Region.binds .any e || Nat.blt e.on ops.dropLast.length) &&
      ((List.range ops.dropLast.length).all fun j => ((masks ops).getD ops.dropLast.length 0).testBit j) && (ops.dropLast.all fun x => match x.guard with | some (j, _) => Nat.blt j ops.dropLast.length | none => true) && (ops.dropLast.any fun x => isCallV x.op)
  | none => false

def denOpsL (P : Program) (ops : List Oper) (K : Frm → Heap → Prop) (fr : Frm) (H : Heap) : Prop :=
  match ops.getLast? with
  | some o => denOpsQ false P ops.dropLast ops.dropLast (fun fr H => denOp P o (aev fr) (fun v H' => K (fr.put o.dst v) H') H) fr H
  | none => False

theorem denOpsL_sound {P : Program} {ops : Array Oper} {K : Frm → Heap → Prop} {id : Nat} (nt : Nat) (hm : P.follows .mixedOrders = true) (hd : drawLast P ops.toList = true) (hdst : dstsOk nt ops.toList = true)
    {fr : Frm} {H : Heap} (h : denOpsL P ops.toList K fr H) :
    ∃ fr' H', K fr' H' ∧ (∀ t, opsDst ops.toList t = false → fr' t = fr t) ∧ CStep P (.region id ops true) nt fr H .normal fr' H' := by
  unfold drawLast at hd
  unfold denOpsL at h
  cases hlast : ops.toList.getLast? with
  | none => rw [hlast] at hd; cases hd
  | some o =>
    simp only [hlast] at hd h
    simp only [Bool.and_eq_true, List.all_eq_true] at hd
    obtain ⟨⟨⟨⟨⟨⟨_, hg⟩, hdo⟩, hedge⟩, hmask⟩, hgd⟩, _⟩ := hd
    obtain ⟨pre, hpre⟩ : ∃ pre : Array Oper, pre.toList = ops.toList.dropLast := ⟨ops.toList.dropLast.toArray, by simp⟩
    have hops : ops = pre.push o := by
      apply Array.ext'
      rw [Array.toList_push, hpre]
      obtain ⟨ys, hy⟩ := List.getLast?_eq_some_iff.1 hlast
      rw [hy, List.dropLast_concat]
    have hplen : ops.toList.dropLast.length = pre.size := by rw [← hpre]; simp
    rw [← hpre] at h hdo hgd
    rw [hplen] at hedge hmask
    subst hops
    have hg' : o.guard = none := by simpa using hg
    have hdst1 : dstsOk nt pre.toList = true := by
      unfold dstsOk at hdst ⊢
      rw [Array.toList_push, List.all_append, Bool.and_eq_true] at hdst
      exact hdst.1
    obtain ⟨F, HH, V, h1, h2, h3, h4⟩ := denOpsQ_run pre.toList 0 fr H h (fun i => by simp) (by simp)
    subst h1 h2
    rw [show pre.toList.length = pre.size by simp] at h3
    obtain ⟨v, H', hK, hs⟩ := denOp_sound h3
    have hgs : GStep P (pre.push o).toList o (F pre.size) (HH pre.size) v H' := .inl ⟨hs, .inl hg'⟩
    obtain ⟨g1, g2⟩ := drawn_any (P := P) nt (drawOk_F hdo) hdst1 h4 (fun j x ho hl i oi hji hi hE hw => by
      have hc : clash P false pre.toList x oi = true := by simp [clash, isLd_pure hl, hE]
      have := drawOk_clash hdo ho hi hji hc
      rw [hw i oi hi hji (Nat.le_refl _) hE] at this
      cases this) fun j x ho hl i oi hij hi hE hb => by
      have hc : clash P false pre.toList oi x = true := by simp [clash, isLd_pure hl, hE]
      have := drawOk_clash hdo hi ho hij hc
      rw [hb] at this
      cases this
    refine ⟨(F pre.size).put o.dst v, H', hK, fun t ht => ?_, fun φ w a s f hn hdf => wp_region_any hm ?_⟩
    · rw [Array.toList_push] at ht
      unfold opsDst at ht
      rw [List.any_append, Bool.or_eq_false_iff] at ht
      rw [← g1 t ht.1]
      refine Frm.put_ne ?_
      have := ht.2
      simpa using this
    · have g3 := g2 φ w a s f hn hdf
      have hsz : (pre.push o).size = pre.size + 1 := by simp
      have hrep : Array.replicate (pre.push o).size false = (Array.replicate pre.size false).push false := by
        rw [hsz]
        exact Array.replicate_succ
      rw [hrep, hsz]
      have notIn : ∀ j, ¬ isIn (Array.replicate pre.size false) j := fun j h => by
        simp only [isIn, Array.getD_eq_getD_getElem?, Array.getElem?_replicate] at h
        split at h <;> simp at h
      refine wpAny_last (fun listed hs hr => none_ready hs (drawOk_F hdo) hr) (fun e he hb => ?_) (fun j hj => ?_) (fun x hx j want hxg => ?_) pre.size (Array.replicate pre.size false) a _ (by simp [left]) (by simp) (fun j o hj => absurd hj (notIn j)) (wpAny_mono2 ?_ _ _ _ _ g3)
      · have := hedge e he
        simp only [hb, Bool.not_true, Bool.false_or] at this
        exact Nat.le_of_ble_eq_true this
      · exact hmask j (by simpa using hj)
      · have := hgd x hx
        rw [hxg] at this
        exact Nat.le_of_ble_eq_true this
      · rintro e a' w' ⟨rfl, d1, d2, φ', x1, f1⟩
        unfold lastQ
        simp only []
        unfold wpOp
        simp only [Array.getElem?_push, if_true]
        refine hgs.wpOp x1.sim (fun x _ => f1.eval x) (fun j want t h _ => by rw [hg'] at h; cases h) fun φ2 w2 cv x2 r2 => ?_
        refine ⟨by first | rfl | trivial, by rw [put_defers]; exact d1, by rw [put_size]; exact d2, φ2, x1.trans x2, FR.put (fun t => (f1 t).ext x2) r2 (fun t ht => by rw [d2]; exact dstsOk_spec hdst (by simp) t ht)⟩

end Go.Ab

/-! A region that is drawn: one of its operations makes a variable that no other one of them looks at. No program here. -/
namespace Go.Ab
variable {P : Program}

theorem Sim.push {φ : Phi} {H : Heap} {w : World} (s : Sim φ H w) (arr : Array Value) (ty : TypeId) : Sim φ H { w with heap := w.heap.push (.cells arr ty) } where
  wf := s.wf
  big := s.big
  glob := s.glob
  live := s.live
  inj := s.inj
  cells := fun b k cb r hk hb => by
    obtain ⟨arr', fz, h1, h2, h3, h4, h5⟩ := s.cells b k cb r hk hb
    have hlt : cb < w.heap.size := (Array.getElem?_eq_some_iff.1 h1).1
    refine ⟨arr', fz, ?_, h2, h3, h4, h5⟩
    show (w.heap.push (.cells arr ty))[cb]? = _
    rw [Array.getElem?_push, if_neg (by omega)]
    exact h1

def adoptP (φ : Phi) (H : Heap) (cb n : Nat) : Phi := fun b => if b = H.next then some (cb, n) else φ b

theorem VR.adopt {φ : Phi} {H : Heap} {cells : List Value} {ty : TypeId} {esz cb n : Nat} {v v' : Value} (h : VR φ H v v') : VR (adoptP φ H cb n) (H.alloc cells ty esz) v v' := by
  have old : ∀ b, b < H.next → adoptP φ H cb n b = φ b ∧ (H.alloc cells ty esz).blk b = H.blk b := fun b hb => by
    simp only [adoptP, Heap.alloc]
    rw [if_neg (by omega), if_neg (by omega)]
    exact ⟨rfl, rfl⟩
  have arx : ∀ a a', AR φ H a a' → AR (adoptP φ H cb n) (H.alloc cells ty esz) a a' := fun a a' h =>
    ⟨h.spot, h.spot', h.off, by have := h.lt; simp only [Heap.alloc]; omega, fun k hk => by
      rw [(old _ h.lt).2] at hk; rw [(old _ h.lt).1]; exact h.map k hk⟩
  have rrx : ∀ (a a' : Addr) (e c : Nat), AR φ H a a' → (∀ k, H.blk a.block = some k → e % 2 = 1 → ∃ r, φ a.block = some (a'.block, r) ∧ a.off + c * k.esz ≤ r) →
      ∀ k, (H.alloc cells ty esz).blk a.block = some k → e % 2 = 1 → ∃ r, adoptP φ H cb n a.block = some (a'.block, r) ∧ a.off + c * k.esz ≤ r := fun a a' e c h hr k hk he => by
    rw [(old _ h.lt).2] at hk; rw [(old _ h.lt).1]; exact hr k hk he
  induction h with
  | junk v => exact .junk v
  | bool b => exact .bool b
  | int k n => exact .int k n
  | string s => exact .string s
  | pnil => exact .pnil
  | ptr h => exact .ptr (arx _ _ h)
  | snil => exact .snil
  | emp a c => exact .emp a c
  | slice h hc hr => exact .slice (arx _ _ h) hc (rrx _ _ _ _ h hr)
  | func f xs ys xs' ys' hx hy _ _ rx ry => exact .func f xs ys xs' ys' hx hy rx ry
  | nilFunc => exact .nilFunc
  | nilIface => exact .nilIface
  | iface t v v' _ ih => exact .iface t v v' ih
  | agg xs xs' hx _ rx => exact .agg xs xs' hx rx
  | tuple xs xs' hx _ rx => exact .tuple xs xs' hx rx

/-- A block that is there already gets a name. -/
theorem Sim.adopt {φ : Phi} {H : Heap} {w : World} (s : Sim φ H w) {arr : Array Value} {ty : TypeId} {esz cb : Nat} (hb : w.heap[cb]? = some (.cells arr ty)) (hn : ∀ b r, φ b ≠ some (cb, r)) (hp : arr.toList.all plainV = true) :
    Sim (adoptP φ H cb arr.size) (H.alloc arr.toList ty esz) w where
  big := by have := s.big; simp only [Heap.alloc]; omega
  glob := fun b k hb hk => by
    have hn := s.big
    simp only [Heap.alloc, if_neg (show ¬ b = H.next by omega)] at hk
    simp only [adoptP, if_neg (show ¬ b = H.next by omega)]
    exact s.glob b k hb hk
  wf := fun b hl => by
    by_cases h : b = H.next
    · subst h; simp [Heap.alloc]
    · simp only [Heap.alloc, if_neg h] at hl ⊢
      have := s.wf b hl
      omega
  live := fun b x hx => by
    by_cases h : b = H.next
    · subst h; simp [Heap.alloc]
    · simp only [adoptP, if_neg h] at hx
      simp only [Heap.alloc, if_neg h]
      exact s.live b x hx
  inj := fun b c cb' r r' h1 h2 => by
    by_cases h : b = H.next <;> by_cases h' : c = H.next
    · rw [h, h']
    · simp only [adoptP, if_pos h, if_neg h'] at h1 h2
      cases h1
      exact absurd h2 (hn c r')
    · simp only [adoptP, if_neg h, if_pos h'] at h1 h2
      cases h2
      exact absurd h1 (hn b r)
    · simp only [adoptP, if_neg h, if_neg h'] at h1 h2
      exact s.inj b c cb' r r' h1 h2
  cells := fun b k cb' r hk hx => by
    by_cases h : b = H.next
    · subst h
      simp only [adoptP, if_true] at hx
      simp only [Heap.alloc, if_true] at hk
      cases hx
      cases hk
      exact ⟨arr, (0, 0), hb, fun _ => rfl, by simp, rfl, fun i v hv => ⟨v, by simpa using hv, plainV_VR (List.all_eq_true.1 hp _ (List.mem_of_getElem? hv))⟩⟩
    · simp only [adoptP, if_neg h] at hx
      simp only [Heap.alloc, if_neg h] at hk
      obtain ⟨arr', fz, h1, h2, h3, h3', h4⟩ := s.cells b k cb' r hk hx
      refine ⟨arr', fz, h1, h2, h3, h3', fun i v hv => ?_⟩
      obtain ⟨v', h5, h6⟩ := h4 i v hv
      exact ⟨v', h5, h6.adopt⟩

theorem isIn_pushB {listed : Array Bool} {x : Bool} {j : Nat} : isIn (listed.push x) j ↔ isIn listed j ∨ (j = listed.size ∧ x = true) := by
  simp only [isIn, Array.getD_eq_getD_getElem?, Array.getElem?_push]
  by_cases h : j = listed.size
  · subst h; simp
  · rw [if_neg h]; simp [h]

theorem set_pushB {listed : Array Bool} {x : Bool} {i : Nat} (hi : i < listed.size) : (listed.push x).setIfInBounds i true = (listed.setIfInBounds i true).push x := by
  apply Array.ext_getElem?
  intro j
  simp only [Array.getElem?_setIfInBounds, Array.getElem?_push, Array.size_push, Array.size_setIfInBounds]
  by_cases h1 : i = j
  · subst h1
    rw [if_pos rfl, if_pos (by omega), if_neg (by omega), if_pos rfl, if_pos hi]
  · rw [if_neg h1, if_neg h1]

section region
variable {P : Program} {ops : Array Oper} {nt : Nat} {F : Nat → Frm} {HH : Nat → Heap} {V : Nat → Value}

theorem inv_push {φ0 : Phi} {w0 : World} {L : Nat → Prop} {a : Act} {w : World} {p q : Nat} {φ : Phi} (I : Inv P false ops nt F HH φ0 w0 L a w p q φ) (arr : Array Value) (ty : TypeId) {d : Tmp} (hd : ∀ i, i ≤ ops.size → F i d = .chan none) (cv : Value) :
    Inv P false ops nt F HH φ0 w0 L (a.put (some d) cv) { w with heap := w.heap.push (.cells arr ty) } p q φ where
  pq := I.pq
  qn := I.qn
  done := I.done
  todo := I.todo
  noE := I.noE
  atE := I.atE
  sim := I.sim.push arr ty
  sc := I.sc
  nd := I.nd
  mp := I.mp
  mj := I.mj
  ext := { I.ext with
    frame := fun cb hcb hn => by
      have h1 := I.ext.frame cb hcb hn
      have h2 := I.ext.size
      show (w.heap.push (.cells arr ty))[cb]? = _
      rw [Array.getElem?_push, if_neg (by omega)]
      exact h1
    size := by
      have h2 := I.ext.size
      show w0.heap.size ≤ (w.heap.push (.cells arr ty)).size
      simp
      omega }
  tm := fun t i hi hv => by
    by_cases h : t = d
    · subst h
      rw [hd i hi]
      exact .junk _
    · rw [put_tmps, if_neg fun g => h (Option.some.inj g.1).symm]
      exact I.tm t i hi hv

/-- What there is when all is done. -/
theorem inv_fin (hrun : ∀ j o, ops.toList[j]? = some o → F (j + 1) = (F j).put o.dst (V j) ∧ RunAt false P ops.toList o (F j) (HH j) (V j) (HH (j + 1)))
    {φ0 : Phi} {w0 : World} {L : Nat → Prop} {a : Act} {w : World} {p q : Nat} {φ : Phi} (I : Inv P false ops nt F HH φ0 w0 L a w p q φ) (all : ∀ j, j < ops.size → L j) :
    Ext φ0 (HH 0) w0 φ (HH ops.size) w ∧ FR φ (HH ops.size) (F ops.size) a.tmps := by
  have hq : q = ops.size := by
    have := I.qn
    rcases Nat.lt_or_ge q ops.size with h | h
    · exfalso
      have ho : ops.toList[q]? = some (ops[q]) := by simp [h]
      exact I.todo q _ ho (isE_fl (I.atE _ ho)) (Nat.le_refl _) (all q h)
    · omega
  subst hq
  refine ⟨⟨I.sim, I.ext.next, I.ext.back, I.ext.agree, fun b hb hl => ?_, I.ext.fresh, I.ext.frame, I.ext.size, I.ext.os, I.ext.tape, I.ext.output⟩, fun t => ?_⟩
  · exact seg_mapped hrun I (fun i o _ _ _ hi => all i hi) b hb (I.sim.wf b hl) hl
  · refine I.tm t _ (Nat.le_refl _) ⟨fun j o _ hj _ => all j hj, fun j o ho hj _ => ?_⟩
    have := (List.getElem?_eq_some_iff.1 ho).1
    simp at this
    omega

/-- The new variable, while it has no name yet. -/
structure AF (φ : Phi) (w0 w : World) (a : Act) (d : Tmp) (arr : Array Value) (ty : TypeId) (cb : Nat) : Prop where
  hb : w.heap[cb]? = some (.cells arr ty)
  hn : ∀ b r, φ b ≠ some (cb, r)
  h0 : w0.heap.size ≤ cb
  slot : a.tmps.getD d undef = .pointer (some ⟨cb, 0, none⟩)

theorem al_fin (hrun : ∀ j o, ops.toList[j]? = some o → F (j + 1) = (F j).put o.dst (V j) ∧ RunAt false P ops.toList o (F j) (HH j) (V j) (HH (j + 1)))
    {φ0 : Phi} {w0 : World} {L : Nat → Prop} {a : Act} {w : World} {p q : Nat} {φ : Phi} (I : Inv P false ops nt F HH φ0 w0 L a w p q φ) (all : ∀ j, j < ops.size → L j)
    {d : Tmp} {arr : Array Value} {ty : TypeId} {cb : Nat} (A : AF φ w0 w a d arr ty cb) (hp : arr.toList.all plainV = true) :
    ∃ φ', Ext φ0 (HH 0) w0 φ' ((HH ops.size).alloc arr.toList ty arr.toList.length) w ∧ FR φ' ((HH ops.size).alloc arr.toList ty arr.toList.length) ((F ops.size).put (some d) (.pointer (some ⟨(HH ops.size).next, 0, none⟩))) a.tmps := by
  obtain ⟨x, fr⟩ := inv_fin hrun I all
  have hsim := x.sim.adopt (esz := arr.toList.length) A.hb A.hn hp
  have hnx := x.next
  have hne : ∀ b, b ≠ (HH ops.size).next → adoptP φ (HH ops.size) cb arr.size b = φ b ∧ ((HH ops.size).alloc arr.toList ty arr.toList.length).blk b = (HH ops.size).blk b := fun b hb => by
    simp only [adoptP, Heap.alloc, if_neg hb]
    exact ⟨trivial, trivial⟩
  refine ⟨adoptP φ (HH ops.size) cb arr.size, ⟨hsim, by simp only [Heap.alloc]; omega, fun b hb k' hk' => ?_, fun b hb hl => ?_, fun b hb hl => ?_, fun b c r hb hx => ?_, x.frame, x.size, x.os, x.tape, x.output⟩, fun t => ?_⟩
  · rw [(hne b (by omega)).2] at hk'
    exact x.back b hb k' hk'
  · rw [(hne b (by omega)).2] at hl
    rw [(hne b (by omega)).1]
    exact x.agree b hb hl
  · by_cases h : b = (HH ops.size).next
    · subst h; simp [adoptP]
    · rw [(hne b h).2] at hl
      rw [(hne b h).1]
      exact x.mapped b hb hl
  · by_cases h : b = (HH ops.size).next
    · subst h
      simp only [adoptP, if_true] at hx
      cases hx
      exact .inl A.h0
    · rw [(hne b h).1] at hx
      rcases x.fresh b c r hb hx with g | ⟨b0, k0, r0, g1, g2, g3, g4, g5⟩
      · exact .inl g
      · exact .inr ⟨b0, k0, r0, g1, g2, g3, g4, by rw [(hne b0 (by omega)).2]; exact g5⟩
  · by_cases h : t = d
    · subst h
      rw [A.slot]
      have : (F ops.size).put (some t) (.pointer (some ⟨(HH ops.size).next, 0, none⟩)) t = .pointer (some ⟨(HH ops.size).next, 0, none⟩) := by simp [Frm.put]
      rw [this]
      exact .ptr ⟨rfl, rfl, rfl, by simp [Heap.alloc], fun k _ => ⟨arr.size, by simp [adoptP]⟩⟩
    · have : (F ops.size).put (some d) (.pointer (some ⟨(HH ops.size).next, 0, none⟩)) t = F ops.size t := Frm.put_ne (show Nat.beq d t = false from by
        cases hb : Nat.beq d t with
        | false => rfl
        | true => exact absurd (Nat.eq_of_beq_eq_true hb).symm h)
      rw [this]
      exact (fr t).adopt

/-- What the region comes to, with the new variable. -/
def alQ (nt n : Nat) (F : Nat → Frm) (HH : Nat → Heap) (φ0 : Phi) (w0 : World) (d : Tmp) (arr : Array Value) (ty : TypeId) : Exit → Act → World → Prop := fun e a w =>
  e = .normal ∧ a.defers = [] ∧ a.tmps.size = nt ∧ ∃ φ', Ext φ0 (HH 0) w0 φ' ((HH n).alloc arr.toList ty arr.toList.length) w ∧
    FR φ' ((HH n).alloc arr.toList ty arr.toList.length) ((F n).put (some d) (.pointer (some ⟨(HH n).next, 0, none⟩))) a.tmps

theorem AF.step {φ φ' : Phi} {w0 w w' : World} {a : Act} {d : Tmp} {arr : Array Value} {ty : TypeId} {cb : Nat} (A : AF φ w0 w a d arr ty cb) (k : Keep φ w φ' w') {o : Oper} {cv : Value} (hd : writesT o d = false) : AF φ' w0 w' (a.put o.dst cv) d arr ty cb := by
  have hlt : cb < w.heap.size := (Array.getElem?_eq_some_iff.1 A.hb).1
  obtain ⟨h1, h2⟩ := k.2 cb hlt A.hn
  refine ⟨by rw [h2]; exact A.hb, h1, A.h0, ?_⟩
  rw [put_tmps, if_neg]
  · exact A.slot
  · rintro ⟨g, _⟩
    unfold writesT at hd
    rw [g] at hd
    simp at hd

variable {al : Oper}

theorem ready_push (hd : drawOkF P false ops.toList = true) {listed : Array Bool} (hsz : listed.size = ops.size) {b : Bool} {i : Nat} (hi : i < ops.size) : i ∈ Region.ready .any (ops.push al) (listed.push b) ↔ i ∈ Region.ready .any ops listed := by
  have hatL : ∀ j, j < ops.size → (ops.push al).toList[j]? = ops.toList[j]? := fun j hj => by rw [Array.getElem?_toList, Array.getElem?_toList, Array.getElem?_push, if_neg (by omega)]
  have hin : ∀ j, j < ops.size → (isIn (listed.push b) j ↔ isIn listed j) := fun j hj => by
    rw [isIn_pushB]
    exact ⟨fun h => h.elim id fun g => by omega, .inl⟩
  rw [mem_ready (by simp [hsz]), mem_ready hsz]
  constructor
  · rintro ⟨h1, h2, h3⟩
    refine ⟨hi, fun g => h2 ((hin i hi).2 g), fun o ho e he hb => ?_⟩
    have he2 := drawOkF_edge hd ho he hb
    exact (hin e.on (by omega)).1 (h3 o (by rw [hatL i hi]; exact ho) e he hb)
  · rintro ⟨h1, h2, h3⟩
    refine ⟨by simp; omega, fun g => h2 ((hin i hi).1 g), fun o ho e he hb => ?_⟩
    rw [hatL i hi] at ho
    have he2 := drawOkF_edge hd ho he hb
    exact (hin e.on (by omega)).2 (h3 o ho e he hb)

theorem wpOp_push (hgd : ∀ x, x ∈ ops.toList → ∀ j want, x.guard = some (j, want) → j < ops.size) {Q : Exit → Act → World → Prop} {i : Nat} (hi : i < ops.size) {K K' : Act → World → Prop} (h : ∀ a w, K a w → K' a w) {a : Act} {w : World} (hh : wpOp P ops Q i K a w) : wpOp P (ops.push al) Q i K' a w := by
  have hat : ∀ j, j < ops.size → (ops.push al)[j]? = ops[j]? := fun j hj => by rw [Array.getElem?_push, if_neg (by omega)]
  refine wpOp_exits h (fun c a w hq => hq) (fun a w hq => hq) (hat i hi).symm (fun x hx tmps => ?_) hh
  unfold Region.wanted
  cases hg : x.guard with
  | none => rfl
  | some q =>
    obtain ⟨j, want⟩ := q
    have hj := hgd x (List.mem_of_getElem? (i := i) (by simpa using hx)) j want hg
    simp only [yielded, hat j hj]

/-- The game where the new variable is made at any time. -/
theorem game_al (hd : drawOkF P false ops.toList = true) (hdst : dstsOk nt ops.toList = true)
    (hrun : ∀ j o, ops.toList[j]? = some o → F (j + 1) = (F j).put o.dst (V j) ∧ RunAt false P ops.toList o (F j) (HH j) (V j) (HH (j + 1)))
    (wf : ∀ i, i ≤ ops.size → ∀ b, (HH i).blk b ≠ none → b < (HH i).next) (nx : ∀ i, i ≤ ops.size → (HH 0).next ≤ (HH i).next)
    (scF : ∀ i t, i ≤ ops.size → Sc (HH i).next (F i t))
    (hld : ∀ j o, ops.toList[j]? = some o → isLd o = true → ∀ i oi, j < i → ops.toList[i]? = some oi → isE false oi.op = true → mayWait false ops.toList (masks ops.toList) j i →
      denOp P o (aev (F j)) (fun v' H' => v' = V j ∧ H' = HH (i + 1)) (HH (i + 1)))
    (hld2 : ∀ j o, ops.toList[j]? = some o → isLd o = true → ∀ i oi, i < j → ops.toList[i]? = some oi → isE false oi.op = true → ((masks ops.toList).getD j 0).testBit i = false →
      denOp P o (aev (F j)) (fun v' H' => v' = V j ∧ H' = HH i) (HH i)) {φ0 : Phi} {w0 : World}
    (hgd : ∀ x, x ∈ ops.toList → ∀ j want, x.guard = some (j, want) → j < ops.size)
    {d : Tmp} {ty : TypeId} {ti : TypeInfo} {z : Value} (hdn : d < nt) (hF : ∀ i, i ≤ ops.size → F i d = .chan none) (hw : ∀ x, x ∈ ops.toList → writesT x d = false)
    (ha : al.op = .alloc ty) (hag : al.guard = none) (had : al.dst = some d) (hae : ∀ e ∈ al.after.toList, Region.binds .any e = false) (hi : P.info? ty = some ti) (hz : ti.zero = some z) (hp : z.cells.toList.all plainV = true) :
    ∀ (fuel : Nat) (listed : Array Bool) (a : Act) (w : World) (p q : Nat) (φ : Phi), left listed = fuel → listed.size = ops.size → Closed ops (isIn listed) → a.tmps.size = nt → a.defers = [] →
      Inv P false ops nt F HH φ0 w0 (isIn listed) a w p q φ →
      (∀ cb, AF φ w0 w a d z.cells ty cb → wpAny P .any (ops.push al) (alQ nt ops.size F HH φ0 w0 d z.cells ty) fuel (listed.push true) a w) ∧
      (w0.heap.size ≤ w.heap.size → wpAny P .any (ops.push al) (alQ nt ops.size F HH φ0 w0 d z.cells ty) (fuel + 1) (listed.push false) a w) := by
  have fin : ∀ (listed : Array Bool) (a : Act) (w : World) (p q : Nat) (φ : Phi), a.tmps.size = nt → a.defers = [] → Inv P false ops nt F HH φ0 w0 (isIn listed) a w p q φ → (∀ j, j < ops.size → isIn listed j) →
      ∀ cb, AF φ w0 w a d z.cells ty cb → alQ nt ops.size F HH φ0 w0 d z.cells ty .normal a w := fun listed a w p q φ hnt hdf I all cb A => by
    obtain ⟨φ', x, fr⟩ := al_fin hrun I all A hp
    exact ⟨rfl, hdf, hnt, φ', x, fr⟩
  have hlast : (ops.push al).toList[ops.size]? = some al := by simp
  have hsizeR : ∀ {listed : Array Bool} {b : Bool}, listed.size = ops.size → (listed.push b).size = (ops.push al).size := fun h => by simp [h]
  -- the variable is made
  have make : ∀ (fuel : Nat) (listed : Array Bool) (a : Act) (w : World) (p q : Nat) (φ : Phi), listed.size = ops.size → a.tmps.size = nt → a.defers = [] → Inv P false ops nt F HH φ0 w0 (isIn listed) a w p q φ → w0.heap.size ≤ w.heap.size →
      (∀ a' w' cb, a'.tmps.size = nt → a'.defers = [] → Inv P false ops nt F HH φ0 w0 (isIn listed) a' w' p q φ → AF φ w0 w' a' d z.cells ty cb → wpAny P .any (ops.push al) (alQ nt ops.size F HH φ0 w0 d z.cells ty) fuel (listed.push true) a' w') →
      wpOp P (ops.push al) (alQ nt ops.size F HH φ0 w0 d z.cells ty) ops.size (wpAny P .any (ops.push al) (alQ nt ops.size F HH φ0 w0 d z.cells ty) fuel ((listed.push false).setIfInBounds ops.size true)) a w := by
    intro fuel listed a w p q φ hsz hnt hdf I hle hk
    have hse : (listed.push false).setIfInBounds ops.size true = listed.push true := by
      apply Array.ext_getElem?
      intro j
      simp only [Array.getElem?_setIfInBounds, Array.getElem?_push, Array.size_push, hsz]
      by_cases h1 : ops.size = j
      · subst h1; simp
      · rw [if_neg h1, if_neg fun g => h1 g.symm, if_neg fun g => h1 g.symm]
    rw [hse]
    have hrunA : (execOp a.eval al).run P w = .ok (.value (.pointer (some ⟨w.heap.size, 0, none⟩))) { w with heap := w.heap.push (.cells z.cells ty) } := by
      simp [execOp, ha, Instr.alloc, zeroValue, typeInfo, hi, hz, newVar, run_newRow]
    unfold wpOp
    have hat : (ops.push al)[ops.size]? = some al := by simp
    rw [hat]
    simp only []
    have hwant : Region.wanted al (yielded (ops.push al) a.tmps) = true := by simp [Region.wanted, hag]
    rw [if_pos hwant]
    left
    unfold Oper.wp
    rw [hrunA]
    simp only [Oper.upon]
    rw [had]
    have hI := inv_push I z.cells ty hF (.pointer (some ⟨w.heap.size, 0, none⟩))
    refine hk _ _ w.heap.size (by rw [put_size]; exact hnt) (by rw [put_defers]; exact hdf) hI ⟨?_, fun b r hb => ?_, hle, ?_⟩
    · show (w.heap.push (.cells z.cells ty))[w.heap.size]? = _
      simp
    · have := I.sim.lt hb
      omega
    · rw [put_tmps, if_pos ⟨rfl, by rw [hnt]; exact hdn⟩]
  intro fuel
  induction fuel with
  | zero =>
    intro listed a w p q φ hl hsz hcl hnt hdf I
    have all : ∀ j, j < ops.size → isIn listed j := fun j hj => left_zero hl j (by rw [hsz]; exact hj)
    have ph1 : ∀ (a : Act) (w : World), a.tmps.size = nt → a.defers = [] → Inv P false ops nt F HH φ0 w0 (isIn listed) a w p q φ → ∀ cb, AF φ w0 w a d z.cells ty cb → wpAny P .any (ops.push al) (alQ nt ops.size F HH φ0 w0 d z.cells ty) 0 (listed.push true) a w := fun a w hnt hdf I cb A => by
      refine ⟨?_, fin listed a w p q φ hnt hdf I all cb A⟩
      cases hr : Region.ready .any (ops.push al) (listed.push true) with
      | nil => rfl
      | cons i l =>
        have := (mem_ready (i := i) (hsizeR hsz)).1 (by rw [hr]; simp)
        have h1 : i < ops.size + 1 := by simpa using this.1
        refine absurd (isIn_pushB.2 ?_) this.2.1
        rcases Nat.lt_or_ge i ops.size with g | g
        · exact .inl (all i g)
        · exact .inr ⟨by omega, rfl⟩
    refine ⟨fun cb A => ph1 a w hnt hdf I cb A, fun hle => ⟨fun hr => ?_, fun i hi => ?_⟩⟩
    · have hmem : ops.size ∈ Region.ready .any (ops.push al) (listed.push false) := (mem_ready (hsizeR hsz)).2 ⟨by simp, (fun g => (isIn_pushB.1 g).elim (fun g => by have := isIn_lt g; omega) fun g => by cases g.2), fun o ho e he hb => by rw [hlast] at ho; cases ho; rw [hae e he] at hb; cases hb⟩
      rw [hr] at hmem
      cases hmem
    · obtain ⟨h1, h2, _⟩ := (mem_ready (hsizeR hsz)).1 hi
      have e1 : i = ops.size := by
        have h1 : i < ops.size + 1 := by simpa using h1
        rcases Nat.lt_or_ge i ops.size with g | g
        · exact absurd (isIn_pushB.2 (.inl (all i g))) h2
        · omega
      subst e1
      exact make 0 listed a w p q φ hsz hnt hdf I hle fun a' w' cb g1 g2 g3 g4 => ph1 a' w' g1 g2 g3 cb g4
  | succ fuel ih =>
    intro listed a w p q φ hl hsz hcl hnt hdf I
    have next : ∀ i, i ∈ Region.ready .any ops listed → i < ops.size ∧ ¬ isIn listed i ∧ left (listed.setIfInBounds i true) = fuel ∧ Closed ops (isIn (listed.setIfInBounds i true)) ∧ isIn (listed.setIfInBounds i true) = fun m => isIn listed m ∨ m = i := fun i hi => by
      obtain ⟨hin, hiL, hie⟩ := (mem_ready hsz).1 hi
      have hset := isIn_set (listed := listed) (i := i) (by omega)
      refine ⟨hin, hiL, by have := left_set (by omega) hiL; omega, ?_, hset⟩
      rw [hset]
      intro j o' hj ho' e he hb
      rcases hj with hj | hj
      · exact .inl (hcl j o' hj ho' e he hb)
      · subst hj; exact .inl (hie o' ho' e he hb)
    have ph1 : ∀ (a : Act) (w : World), a.tmps.size = nt → a.defers = [] → Inv P false ops nt F HH φ0 w0 (isIn listed) a w p q φ → ∀ cb, AF φ w0 w a d z.cells ty cb → wpAny P .any (ops.push al) (alQ nt ops.size F HH φ0 w0 d z.cells ty) (fuel + 1) (listed.push true) a w := fun a w hnt hdf I cb A => by
      refine ⟨fun hr => ?_, fun i hi => ?_⟩
      · have hr2 : Region.ready .any ops listed = [] := by
          cases hp : Region.ready .any ops listed with
          | nil => rfl
          | cons x l =>
            have hx : x ∈ Region.ready .any ops listed := by rw [hp]; simp
            have := (ready_push (al := al) (b := true) hd hsz ((mem_ready hsz).1 hx).1).2 hx
            rw [hr] at this
            cases this
        exact fin listed a w p q φ hnt hdf I (none_ready hsz hd hr2) cb A
      · have h1 := (mem_ready (hsizeR hsz)).1 hi
        have h2 : i < ops.size + 1 := by simpa using h1.1
        have hio : i < ops.size := by
          rcases Nat.lt_or_ge i ops.size with g | g
          · exact g
          · exact absurd (isIn_pushB.2 (.inr ⟨by omega, rfl⟩)) h1.2.1
        have hr := (ready_push (al := al) hd hsz hio).1 hi
        obtain ⟨_, _, n1, n2, n3⟩ := next i hr
        rw [set_pushB (by omega)]
        refine wpOp_push hgd hio (fun a' w' hh => ?_) (game_step hd hdst hrun wf nx scF hld hld2 listed a w p q φ hsz hcl hnt hdf I i hr _)
        obtain ⟨p', q', φ', J, kp, g1, g2, o, cv, g3, rfl⟩ := hh
        exact (ih (listed.setIfInBounds i true) _ w' p' q' φ' n1 (by simp [hsz]) n2 g1 g2 (by rw [n3]; exact J)).1 cb (A.step kp (hw o (List.mem_of_getElem? g3)))
    refine ⟨fun cb A => ph1 a w hnt hdf I cb A, fun hle => ⟨fun hr => ?_, fun i hi => ?_⟩⟩
    · have hmem : ops.size ∈ Region.ready .any (ops.push al) (listed.push false) := (mem_ready (hsizeR hsz)).2 ⟨by simp, (fun g => (isIn_pushB.1 g).elim (fun g => by have := isIn_lt g; omega) fun g => by cases g.2), fun o ho e he hb => by rw [hlast] at ho; cases ho; rw [hae e he] at hb; cases hb⟩
      rw [hr] at hmem
      cases hmem
    · have h1 := (mem_ready (hsizeR hsz)).1 hi
      have h2 : i < ops.size + 1 := by simpa using h1.1
      rcases Nat.lt_or_ge i ops.size with hio | hio
      · have hr := (ready_push (al := al) hd hsz hio).1 hi
        obtain ⟨_, _, n1, n2, n3⟩ := next i hr
        rw [set_pushB (by omega)]
        refine wpOp_push hgd hio (fun a' w' hh => ?_) (game_step hd hdst hrun wf nx scF hld hld2 listed a w p q φ hsz hcl hnt hdf I i hr _)
        obtain ⟨p', q', φ', J, kp, g1, g2, o, cv, g3, rfl⟩ := hh
        exact (ih (listed.setIfInBounds i true) _ w' p' q' φ' n1 (by simp [hsz]) n2 g1 g2 (by rw [n3]; exact J)).2 (by have := kp.1; omega)
      · have e1 : i = ops.size := by omega
        subst e1
        exact make (fuel + 1) listed a w p q φ hsz hnt hdf I hle fun a' w' cb g1 g2 g3 g4 => ph1 a' w' g1 g2 g3 cb g4

end region

/-- The last but one makes a variable that no other but the last one looks at; the last one needs all the others. -/
def drawAl (P : Program) (ops : List Oper) : Bool :=
  match ops.reverse with
  | last :: al :: r =>
    (match al.op with | .alloc _ => true | _ => false) && al.guard.isNone && last.guard.isNone && (match al.dst with | some d => r.reverse.all fun x => !writesT x d | none => false) &&
    (al.after.toList.all fun e => !Region.binds .any e) && drawOkF P false r.reverse && (r.reverse.all fun x => match x.guard with | some (j, _) => Nat.blt j r.length | none => true) &&
    (last.after.toList.all fun e => !Region.binds .any e || Nat.blt e.on (r.length + 1)) && ((List.range (r.length + 1)).all fun j => ((masks ops).getD (r.length + 1) 0).testBit j)
  | _ => false

def denOpsA (P : Program) (ops : List Oper) (K : Frm → Heap → Prop) (fr : Frm) (H : Heap) : Prop :=
  match ops.reverse with
  | last :: al :: r =>
    match al.dst with
    | some d => denOpsF false P r.reverse (masks r.reverse) r.reverse 0 [] [] (fun fr' H' => denOp P al (aev fr') (fun v H2 => denOp P last (aev (fr'.put (some d) v)) (fun v3 H3 => K ((fr'.put (some d) v).put last.dst v3) H3) H2) H') (fr.put (some d) (.chan none)) H
    | none => False
  | _ => False

theorem denOp_alloc {P : Program} {o : Oper} {ev : Operand → Value} {k : Post} {H : Heap} {ty : TypeId} (ha : o.op = .alloc ty) (h : denOp P o ev k H) :
    ∃ (ti : TypeInfo) (z : Value), P.info? ty = some ti ∧ ti.zero = some z ∧ z.cells.toList.all plainV = true ∧ k (.pointer (some ⟨H.next, 0, none⟩)) (H.alloc z.cells.toList ty z.cells.toList.length) := by
  simp only [denOp, ha] at h
  split at h
  · rename_i ti hi
    split at h
    · rename_i z hz
      split at h
      · rename_i hp
        exact ⟨ti, z, hi, hz, hp, h⟩
      · exact h.elim
    · exact h.elim
  · exact h.elim

theorem denOpsA_sound {P : Program} {ops : Array Oper} {K : Frm → Heap → Prop} {id : Nat} (nt : Nat) (hm : P.follows .mixedOrders = true) (hd : drawAl P ops.toList = true) (hdst : dstsOk nt ops.toList = true)
    {fr : Frm} {H : Heap} (h : denOpsA P ops.toList K fr H) :
    ∃ fr' H', K fr' H' ∧ (∀ t, opsDst ops.toList t = false → fr' t = fr t) ∧ CStep P (.region id ops true) nt fr H .normal fr' H' := by
  have hrr : ops.toList = ops.toList.reverse.reverse := by simp
  unfold drawAl at hd
  unfold denOpsA at h
  cases hrev : ops.toList.reverse with
  | nil => rw [hrev] at hd; cases hd
  | cons last tl =>
  cases tl with
  | nil => rw [hrev] at hd; cases hd
  | cons al r =>
  rw [hrev] at hrr
  simp only [hrev] at hd h
  obtain ⟨pre, hpre⟩ : ∃ pre : Array Oper, pre.toList = r.reverse := ⟨r.reverse.toArray, by simp⟩
  have hops : ops = (pre.push al).push last := by
    apply Array.ext'
    rw [Array.toList_push, Array.toList_push, hpre, hrr]
    simp
  have hrl : r.length = pre.size := by rw [← Array.length_toList, hpre]; simp
  rw [← hpre] at h hd
  rw [hrl] at hd
  cases hdd : al.dst with
  | none => rw [hdd] at h; exact h.elim
  | some d =>
  simp only [hdd] at h hd
  simp only [Bool.and_eq_true, List.all_eq_true] at hd
  obtain ⟨⟨⟨⟨⟨⟨⟨⟨q1, q2⟩, q3⟩, q4⟩, q5⟩, q6⟩, q7⟩, q8⟩, q9⟩ := hd
  obtain ⟨ty, ha⟩ : ∃ ty, al.op = .alloc ty := by
    split at q1
    · exact ⟨_, by assumption⟩
    · cases q1
  subst hops
  have hg' : last.guard = none := by simpa using q3
  have hag : al.guard = none := by simpa using q2
  have hdst1 : dstsOk nt (pre.push al).toList = true := by
    unfold dstsOk at hdst ⊢
    rw [Array.toList_push, List.all_append, Bool.and_eq_true] at hdst
    exact hdst.1
  have hdst2 : dstsOk nt pre.toList = true := by
    unfold dstsOk at hdst1 ⊢
    rw [Array.toList_push, List.all_append, Bool.and_eq_true] at hdst1
    exact hdst1.1
  have hdn : d < nt := dstsOk_spec hdst1 (o := al) (by simp) d hdd
  obtain ⟨F, HH, V, h1, h2, h3, h4, _, h6, _, h8⟩ := denOpsF_run pre.toList 0 [] [] _ _ h (fun i => by simp) (by simp)
  rw [show pre.toList.length = pre.size by simp] at h3
  obtain ⟨ti, z, hi, hz, hp, h3⟩ := denOp_alloc ha h3
  obtain ⟨v3, H3, hK, hs⟩ := denOp_sound h3
  have hgs : GStep P ((pre.push al).push last).toList last ((F pre.size).put (some d) (.pointer (some ⟨(HH pre.size).next, 0, none⟩))) ((HH pre.size).alloc z.cells.toList ty z.cells.toList.length) v3 H3 := .inl ⟨hs, .inl hg'⟩
  have hrun : ∀ j o, pre.toList[j]? = some o → F (j + 1) = (F j).put o.dst (V j) ∧ RunAt false P pre.toList o (F j) (HH j) (V j) (HH (j + 1)) := fun j o ho => h4 j o (Nat.zero_le _) ho
  have hw : ∀ x, x ∈ pre.toList → writesT x d = false := fun x hx => by simpa using q4 x hx
  have hF : ∀ i, i ≤ pre.size → F i d = .chan none := fun i hi => by
    have := same_slot hrun d i 0 (by omega) fun j o ho _ _ => hw o (List.mem_of_getElem? ho)
    rw [Nat.zero_add] at this
    rw [this, h1]
    simp [Frm.put]
  refine ⟨((F pre.size).put (some d) (.pointer (some ⟨(HH pre.size).next, 0, none⟩))).put last.dst v3, H3, hK, fun t ht => ?_, fun φ w a s f hn hdf => wp_region_any hm ?_⟩
  · rw [Array.toList_push, Array.toList_push] at ht
    unfold opsDst at ht
    rw [List.any_append, List.any_append, Bool.or_eq_false_iff, Bool.or_eq_false_iff] at ht
    obtain ⟨⟨t1, t2⟩, t3⟩ := ht
    have hdt : Nat.beq d t = false := by simpa [hdd] using t2
    have e1 := Frm.put_ne (fr := (F pre.size).put (some d) (.pointer (some ⟨(HH pre.size).next, 0, none⟩))) (d := last.dst) (v := v3) (t := t) (by simpa using t3)
    have e2 := Frm.put_ne (fr := F pre.size) (d := some d) (v := .pointer (some ⟨(HH pre.size).next, 0, none⟩)) (t := t) hdt
    have e3 := same_slot hrun t pre.size 0 (by omega) fun j o ho _ _ => by
      rw [List.any_eq_false] at t1
      have := t1 o (List.mem_of_getElem? ho)
      unfold writesT
      cases hod : o.dst with
      | none => rfl
      | some d' =>
        rw [hod] at this
        simp only at this ⊢
        cases hb : Nat.beq d' t with
        | false => rfl
        | true => exact absurd hb this
    rw [Nat.zero_add] at e3
    rw [e1, e2, e3, h1]
    exact Frm.put_ne (d := some d) hdt
  · have f0 : FR φ (HH 0) (F 0) a.tmps := fun t => by
      rw [h1, h2]
      by_cases hb : Nat.beq d t = true
      · have := Nat.eq_of_beq_eq_true hb
        subst this
        have e : fr.put (some d) (.chan none) d = .chan none := by simp [Frm.put]
        rw [e]
        exact .junk _
      · rw [Frm.put_ne (d := some d) (show Nat.beq d t = false from by cases hc : Nat.beq d t with | false => rfl | true => exact absurd hc hb)]
        exact f t
    have s0 : Sim φ (HH 0) w := by rw [h2]; exact s
    have tr := text_run hdst2 hrun s0 f0 hn
    have wf : ∀ i, i ≤ pre.size → ∀ b, (HH i).blk b ≠ none → b < (HH i).next := fun i hi => let ⟨_, _, _, s, _⟩ := tr i hi; s.wf
    have nx : ∀ i, i ≤ pre.size → (HH 0).next ≤ (HH i).next := fun i hi => let ⟨_, _, _, _, _, _, h⟩ := tr i hi; h
    have scF : ∀ i t, i ≤ pre.size → Sc (HH i).next (F i t) := fun i t hi => let ⟨φ, w, a, _, f, _⟩ := tr i hi; ⟨φ, HH i, _, Nat.le_refl _, f t⟩
    have notIn : ∀ n j, ¬ isIn (Array.replicate n false) j := fun n j h => by
      simp only [isIn, Array.getD_eq_getD_getElem?, Array.getElem?_replicate] at h
      split at h <;> simp at h
    have s1 := s0.drawn (w.drawn + 1)
    obtain ⟨q, I⟩ := seg_start (nt := nt) (P := P) (a := a) (φ0 := φ) (w0 := w) (L := isIn (Array.replicate pre.size false)) hrun wf (Nat.zero_le _) (fun i o _ _ h => by omega) (fun i o _ _ _ => notIn _ i) s1
      (fun b hb1 hb2 => by omega) (let x := Ext.refl s1; ⟨s1.big, x.next, x.back, x.agree, x.fresh, x.frame, x.size, x.os, x.tape, x.output⟩) (fun t i hi hv => by
        have := same_slot hrun t i 0 (by omega) (fun j o ho _ hj => by
          cases hw : writesT o t with
          | false => rfl
          | true => exact absurd (hv.1 j o ho (by omega) hw) (notIn _ j))
        rw [Nat.zero_add] at this
        rw [this]
        exact f0 t)
    have hgd : ∀ x, x ∈ pre.toList → ∀ j want, x.guard = some (j, want) → j < pre.size := fun x hx j want hxg => by
      have := q7 x hx
      rw [hxg] at this
      exact Nat.le_of_ble_eq_true this
    have hae : ∀ e ∈ al.after.toList, Region.binds .any e = false := fun e he => by simpa using q5 e he
    have g3 := (game_al (al := al) q6 hdst2 hrun wf nx scF (fun j o ho hl i oi hji hi hE hw => h6 j o (Nat.zero_le _) ho hl i oi hji hi hE hw) (fun j o ho hl i oi hij hi hE hb => h8 j o (Nat.zero_le _) ho hl i oi (Nat.zero_le _) hij hi hE hb) hgd hdn hF hw ha hag hdd hae hi hz hp
      pre.size (Array.replicate pre.size false) a _ 0 q φ (by simp [left]) (by simp) (fun j o hj => absurd hj (notIn _ j)) hn hdf I).2 (Nat.le_refl _)
    have hsz : ((pre.push al).push last).size = pre.size + 1 + 1 := by simp
    have hrep : Array.replicate ((pre.push al).push last).size false = ((Array.replicate pre.size false).push false).push false := by
      rw [hsz, Array.replicate_succ, Array.replicate_succ]
    rw [hrep, hsz]
    have hin0 : ∀ j, ¬ isIn ((Array.replicate pre.size false).push false) j := fun j h => notIn _ j (isIn_push.1 h)
    have hpsz : (pre.push al).size = pre.size + 1 := by simp
    have hatL : ∀ j, j < pre.size → (pre.push al).toList[j]? = pre.toList[j]? := fun j hj => by rw [Array.getElem?_toList, Array.getElem?_toList, Array.getElem?_push, if_neg (by omega)]
    refine wpAny_last (pre := pre.push al) (fun listed hs hr j => ?_) (fun e he hb => ?_) (fun j hj => ?_) (fun x hx j want hxg => ?_) (pre.size + 1) ((Array.replicate pre.size false).push false) a _ (by simp [left]) (by simp) (fun j o hj => absurd hj (hin0 j)) (wpAny_mono2 ?_ _ _ _ _ g3)
    · induction j using Nat.strongRecOn with
      | _ j ih =>
        intro hj
        apply Classical.byContradiction
        intro hnot
        have : j ∈ Region.ready .any (pre.push al) listed := (mem_ready hs).2 ⟨hj, hnot, fun o ho e he hb => by
          rcases Nat.lt_or_ge j pre.size with g | g
          · rw [hatL j g] at ho
            have := drawOkF_edge q6 ho he hb
            exact ih e.on this (by omega)
          · have : j = pre.size := by omega
            subst this
            have : (pre.push al).toList[pre.size]? = some al := by simp
            rw [this] at ho
            cases ho
            rw [hae e he] at hb
            cases hb⟩
        rw [hr] at this
        cases this
    · have := q8 e he
      simp only [hb, Bool.not_true, Bool.false_or] at this
      have := Nat.le_of_ble_eq_true this
      omega
    · have := q9 j (by simp; omega)
      rw [hpsz]
      have e : ((pre.push al).push last).toList = (last :: al :: r).reverse := by
        rw [Array.toList_push, Array.toList_push, hpre]
        simp
      exact this
    · rw [Array.toList_push] at hx
      rcases List.mem_append.1 hx with hx | hx
      · have := hgd x hx j want hxg
        omega
      · simp at hx
        subst hx
        rw [hag] at hxg
        cases hxg
    · rintro e a' w' ⟨rfl, d1, d2, φ', x1, f1⟩
      unfold lastQ
      simp only []
      unfold wpOp
      simp only [Array.getElem?_push, if_true]
      rw [← h2]
      refine hgs.wpOp x1.sim (fun x _ => f1.eval x) (fun j want t h _ => by rw [hg'] at h; cases h) fun φ2 w2 cv x2 r2 => ?_
      exact ⟨by first | rfl | trivial, by rw [put_defers]; exact d1, by rw [put_size]; exact d2, φ2, x1.trans x2, FR.put (fun t => (f1 t).ext x2) r2 (fun t ht => by rw [d2]; exact dstsOk_spec hdst (o := last) (by simp) t ht)⟩

end Go.Ab

/-! A region that is drawn: a list of plain elements may be written out ahead of writes that stand before it in the text. No program here. -/
namespace Go.Ab
variable {P : Program}

/-- Plain, or a composite of plain parts. -/
def flatV (v : Value) : Bool := match v with | .agg xs => xs.toList.all plainV | v => plainV v

theorem plain_VR2 {φ φ2 : Phi} {H H2 : Heap} {v u : Value} (h : plainV v = true) (r : VR φ H v u) : VR φ2 H2 v u := by
  cases r <;> first | (simp [plainV] at h; done) | constructor

theorem flat_cells {v : Value} {vc : List Value} (h : flatV v = true) (hc : cellsA v = some vc) : vc.all plainV = true := by
  unfold flatV at h
  unfold cellsA at hc
  split at h
  · simp only [Option.some.injEq] at hc
    rw [← hc]; exact h
  · rename_i hne
    split at hc
    · exact absurd rfl (hne _)
    · split at hc
      · cases hc; simp [h]
      · cases hc

theorem reps_plain {n : Nat} {zc : List Value} (h : zc.all plainV = true) : (reps n zc).all plainV = true := by
  rw [List.all_eq_true] at h ⊢
  intro v hv
  simp only [reps, List.mem_flatten, List.mem_replicate] at hv
  obtain ⟨l, ⟨_, rfl⟩, hv⟩ := hv
  exact h v hv

/-- Plain, or a slice of a block that was there at first and is there at last. -/
def keptC (H H' : Heap) (v : Value) : Prop := plainV v = true ∨ ∃ (a : Addr) (n e : Nat), v = .slice (some a) n e ∧ a.block < H.next ∧ H'.blk a.block ≠ none

def keptV (H H' : Heap) (v : Value) : Prop := flatV v = true ∨ ∃ (a : Addr) (n e : Nat), v = .slice (some a) n e ∧ a.block < H.next ∧ H'.blk a.block ≠ none

theorem fill_kept {H H' : Heap} : ∀ (pa : List (Nat × Nat × Value)) (cells out : List Value), (∀ v ∈ cells, keptC H H' v) → (∀ p ∈ pa, keptV H H' p.2.2) → fillA cells pa = some out → ∀ v ∈ out, keptC H H' v
  | [], cells, out, h, _, e => by simp only [fillA, Option.some.injEq] at e; rw [← e]; exact h
  | (off, sz, v) :: rest, cells, out, h, hp, e => by
    unfold fillA at e
    split at e
    · rename_i vc hc
      split at e
      · refine fill_kept rest _ _ ?_ (fun p hm => hp p (List.mem_cons_of_mem _ hm)) e
        have hv : ∀ x ∈ vc, keptC H H' x := fun x hx => by
          rcases hp _ List.mem_cons_self with g | ⟨a, n, e', g, g1, g2⟩
          · exact .inl (List.all_eq_true.1 (flat_cells g hc) x hx)
          · have g : v = .slice (some a) n e' := g
            subst g
            simp only [cellsA, isCell, if_true, Option.some.injEq] at hc
            subst hc
            rw [List.mem_singleton] at hx
            subst hx
            exact .inr ⟨a, n, e', rfl, g1, g2⟩
        intro x hx
        rcases List.mem_append.1 hx with hx | hx
        · rcases List.mem_append.1 hx with hx | hx
          · exact h x (List.mem_of_mem_take hx)
          · exact hv x hx
        · exact h x (List.mem_of_mem_drop hx)
      · cases e
    · cases e

/-- Such a value stands for the same at first. -/
theorem kept_down {φ1 φ0 : Phi} {H1 H0 : Heap} {v u : Value} (hv : plainV v = true ∨ ∃ (a : Addr) (n e : Nat), v = .slice (some a) n e ∧ a.block < H0.next ∧ ∃ k1, H1.blk a.block = some k1 ∧ (∀ k0, H0.blk a.block = some k0 → k0.esz = k1.esz) ∧ φ1 a.block = φ0 a.block)
    (h : VR φ1 H1 v u) : VR φ0 H0 v u := by
  rcases hv with hv | ⟨a, n, e, rfl, hl, k1, hk1, he, hφ⟩
  · exact plain_VR2 hv h
  · cases h with
    | slice h hc hr =>
      refine .slice ⟨h.spot, h.spot', h.off, hl, fun k0 hk0 => ?_⟩ hc fun k0 hk0 ho => ?_
      · rw [← hφ]; exact h.map k1 hk1
      · obtain ⟨r, h1, h2⟩ := hr k1 hk1 ho
        exact ⟨r, by rw [← hφ]; exact h1, by rw [he k0 hk0]; exact h2⟩

/-- A heap of which nothing may be written. -/
def roH (H : Heap) : Heap := ⟨fun b => (H.blk b).map fun k => { k with ro := true }, H.next⟩

theorem roH_VR {φ : Phi} {H : Heap} {v u : Value} (h : VR φ H v u) : VR φ (roH H) v u :=
  h.mono (Nat.le_refl _) fun b _ k2 hk2 => by
    simp only [roH, Option.map_eq_some_iff] at hk2
    obtain ⟨k, h1, rfl⟩ := hk2
    exact ⟨k, h1, rfl, rfl⟩

theorem roH_sim {φ : Phi} {H : Heap} {w : World} (s : Sim φ H w) : Sim φ (roH H) w where
  big := s.big
  glob := fun b k hb hk => by
    simp only [roH, Option.map_eq_some_iff] at hk
    obtain ⟨k, h1, rfl⟩ := hk
    exact ⟨rfl, (s.glob b k hb h1).2⟩
  wf := fun b h => s.wf b fun g => h (by simp [roH, g])
  live := fun b x h g => s.live b x h (by simpa [roH] using g)
  inj := s.inj
  cells := fun b k cb r hk hb => by
    simp only [roH, Option.map_eq_some_iff] at hk
    obtain ⟨k, h1, rfl⟩ := hk
    obtain ⟨arr', fz, g1, _, g3, g4, g5⟩ := s.cells b k cb r h1 hb
    exact ⟨arr', fz, g1, (fun h => by cases h), g3, g4, fun i v hv => let ⟨v', q1, q2⟩ := g5 i v hv; ⟨v', q1, roH_VR q2⟩⟩

/-- A heap with nothing in it whose next block has this number. -/
def bare (n : Nat) : Heap := ⟨fun _ => none, n⟩

/-- Blocks of the world that were stay as they are. -/
structure Grows (w w' : World) : Prop where
  size : w.heap.size ≤ w'.heap.size
  keep : ∀ cb, cb < w.heap.size → w'.heap[cb]? = w.heap[cb]?
  os : w'.os = w.os
  tape : w'.tape = w.tape
  output : w'.output = w.output

theorem Sim.grows {φ : Phi} {H : Heap} {w w' : World} (s : Sim φ H w) (g : Grows w w') : Sim φ H w' where
  wf := s.wf
  big := s.big
  glob := s.glob
  live := s.live
  inj := s.inj
  cells := fun b k cb r hk hb => by
    obtain ⟨arr', fz, h1, h2, h3, h4, h5⟩ := s.cells b k cb r hk hb
    have hlt : cb < w.heap.size := (Array.getElem?_eq_some_iff.1 h1).1
    exact ⟨arr', fz, by rw [g.keep cb hlt]; exact h1, h2, h3, h4, h5⟩

/-- The new block, while it has no name yet: by a relation of its own. -/
structure LF (R : Value → Value → Prop) (φ : Phi) (w0 w : World) (a : Act) (d : Tmp) (nx n esz : Nat) (ty : TypeId) (cells : List Value) (φ1 : Phi) : Prop where
  sim : Sim φ1 ((bare nx).alloc cells ty esz) w
  named : φ1 nx ≠ none
  free : ∀ cb r, φ1 nx = some (cb, r) → w0.heap.size ≤ cb ∧ ∀ b r', φ b ≠ some (cb, r')
  slot : VR φ1 ((bare nx).alloc cells ty esz) (.slice (some ⟨nx, 0, none⟩) n (2 * n)) (a.tmps.getD d undef)
  old : ∀ (cb r : Nat), φ1 nx = some (cb, r) → ∀ (arr : Array Value) (t : TypeId) (fz : Nat × Nat), w.heap[cb]? = some (.cells arr t fz) → ∀ (i : Nat) (v : Value), cells[i]? = some v → ∃ v' : Value, arr[i]? = some v' ∧ R v v'

theorem LF.step {R : Value → Value → Prop} {φ φ' φ1 : Phi} {w0 w w' : World} {a : Act} {d : Tmp} {nx n esz : Nat} {ty : TypeId} {cells : List Value} (A : LF R φ w0 w a d nx n esz ty cells φ1) (k : Keep φ w φ' w') {o : Oper} {cv : Value} (hd : writesT o d = false) :
    LF R φ' w0 w' (a.put o.dst cv) d nx n esz ty cells φ1 := by
  have nm : ∀ b kk, ((bare nx).alloc cells ty esz).blk b = some kk → b = nx := fun b kk h => by
    by_cases e : b = nx
    · exact e
    · simp [Heap.alloc, bare, e] at h
  refine ⟨⟨A.sim.wf, A.sim.live, A.sim.inj, fun b kk cb r hk hb => ?_, A.sim.big, A.sim.glob⟩, A.named, fun cb r hcb => ?_, ?_, fun cb r hcb arr t fz hw => A.old cb r hcb arr t fz (by rw [← (k.2 cb (A.sim.lt hcb) (A.free cb r hcb).2).2]; exact hw)⟩
  · obtain ⟨arr', fz, h1, h2, h3, h4, h5⟩ := A.sim.cells b kk cb r hk hb
    have hlt : cb < w.heap.size := (Array.getElem?_eq_some_iff.1 h1).1
    have := nm b kk hk
    subst this
    exact ⟨arr', fz, by rw [(k.2 cb hlt (A.free cb r hb).2).2]; exact h1, h2, h3, h4, h5⟩
  · exact ⟨(A.free cb r hcb).1, (k.2 cb (A.sim.lt hcb) (A.free cb r hcb).2).1⟩
  · rw [put_tmps, if_neg]
    · exact A.slot
    · rintro ⟨g, _⟩
      unfold writesT at hd
      rw [g] at hd
      simp at hd

/-- The relation once the block has its name. -/
def nameP (φ : Phi) (nx : Nat) (φ1 : Phi) : Phi := fun b => if b = nx then φ1 b else if b < nx then φ b else none

theorem LF.name {R : Value → Value → Prop} {φ φ1 : Phi} {w0 w : World} {a : Act} {d : Tmp} {n esz : Nat} {ty : TypeId} {cells : List Value} {H : Heap} (A : LF R φ w0 w a d H.next n esz ty cells φ1) (hp : ∀ v u, v ∈ cells → R v u → VR (fun b => if b < H.next then φ b else none) H v u)
    (s : Sim (fun b => if b < H.next then φ b else none) H w) :
    Sim (nameP φ H.next φ1) (H.alloc cells ty esz) w ∧ VR (nameP φ H.next φ1) (H.alloc cells ty esz) (.slice (some ⟨H.next, 0, none⟩) n (2 * n)) (a.tmps.getD d undef) := by
  have hnew : nameP φ H.next φ1 H.next = φ1 H.next := by simp [nameP]
  have hold : ∀ b, b < H.next → nameP φ H.next φ1 b = φ b ∧ (H.alloc cells ty esz).blk b = H.blk b := fun b hb => by
    simp only [nameP, Heap.alloc, if_neg (show ¬ b = H.next by omega), if_pos hb]
    exact ⟨trivial, trivial⟩
  have hfar : ∀ b, ¬ b = H.next → ¬ b < H.next → nameP φ H.next φ1 b = none := fun b h1 h2 => by simp only [nameP, if_neg h1, if_neg h2]
  refine ⟨⟨fun b hl => ?_, fun b x hx => ?_, fun b c cb r r' h1 h2 => ?_, fun b k cb r hk hb => ?_, by have := s.big; simp only [Heap.alloc]; omega, fun b k hb hk => ?_⟩, ?_⟩
  rotate_left 4
  · have hn := s.big
    rw [(hold b (by omega)).2] at hk
    rw [(hold b (by omega)).1]
    have := s.glob b k hb hk
    simp only [if_pos (show b < H.next by omega)] at this
    exact this
  rotate_left 1
  · by_cases h : b = H.next
    · subst h; simp [Heap.alloc]
    · simp only [Heap.alloc, if_neg h] at hl ⊢
      have := s.wf b hl
      omega
  · by_cases h : b = H.next
    · subst h; simp [Heap.alloc]
    · by_cases h2 : b < H.next
      · rw [(hold b h2).1] at hx
        rw [(hold b h2).2]
        exact s.live b x (by simp only [if_pos h2]; exact hx)
      · rw [hfar b h h2] at hx; cases hx
  · have one : ∀ b cb r, nameP φ H.next φ1 b = some (cb, r) → (b = H.next ∧ φ1 H.next = some (cb, r)) ∨ (b < H.next ∧ φ b = some (cb, r)) := fun b cb r h => by
      by_cases g : b = H.next
      · subst g; rw [hnew] at h; exact .inl ⟨rfl, h⟩
      · by_cases g2 : b < H.next
        · rw [(hold b g2).1] at h; exact .inr ⟨g2, h⟩
        · rw [hfar b g g2] at h; cases h
    rcases one b cb r h1 with ⟨g1, g2⟩ | ⟨g1, g2⟩ <;> rcases one c cb r' h2 with ⟨g3, g4⟩ | ⟨g3, g4⟩
    · rw [g1, g3]
    · exact absurd g4 ((A.free cb r g2).2 c r')
    · exact absurd g2 ((A.free cb r' g4).2 b r)
    · exact s.inj b c cb r r' (by simp only [if_pos g1]; exact g2) (by simp only [if_pos g3]; exact g4)
  · by_cases h : b = H.next
    · subst h
      rw [hnew] at hb
      simp only [Heap.alloc, if_true, Option.some.injEq] at hk
      subst hk
      obtain ⟨arr', fz, h1, h2, h3, h4, h5⟩ := A.sim.cells H.next ⟨cells, ty, esz, false⟩ cb r (by simp [Heap.alloc, bare]) hb
      refine ⟨arr', fz, h1, h2, h3, h4, fun i v hv => let ⟨v', q1, q2⟩ := A.old cb r hb arr' _ fz h1 i v hv; ⟨v', q1, (hp v v' (List.mem_of_getElem? hv) q2).mono (by simp [Heap.alloc]) fun c hc k2 hk2 => ?_⟩⟩
      rw [(hold c hc).2] at hk2
      exact ⟨k2, hk2, rfl, by rw [(hold c hc).1]; simp only [if_pos hc]⟩
    · by_cases h2 : b < H.next
      · rw [(hold b h2).1] at hb
        rw [(hold b h2).2] at hk
        obtain ⟨arr', fz, g1, g2, g3, g4, g5⟩ := s.cells b k cb r hk (by simp only [if_pos h2]; exact hb)
        refine ⟨arr', fz, g1, g2, g3, g4, fun i v hv => let ⟨v', q1, q2⟩ := g5 i v hv; ⟨v', q1, q2.mono (by simp [Heap.alloc]) fun c hc k2 hk2 => ?_⟩⟩
        rw [(hold c hc).2] at hk2
        exact ⟨k2, hk2, rfl, by rw [(hold c hc).1]; simp only [if_pos hc]⟩
      · rw [hfar b h h2] at hb; cases hb
  · have hs := A.slot
    generalize a.tmps.getD d undef = u at hs
    cases hs with
    | slice h hc hr =>
      refine .slice ⟨h.spot, h.spot', h.off, by simp [Heap.alloc], fun k hk => ?_⟩ hc fun k hk he => by omega
      obtain ⟨r, hr⟩ := h.map ⟨cells, ty, esz, false⟩ (by simp [Heap.alloc, bare])
      exact ⟨r, by rw [hnew]; exact hr⟩

section region
variable {P : Program} {ops : Array Oper} {nt : Nat} {F : Nat → Frm} {HH : Nat → Heap} {V : Nat → Value}

/-- What is there at last was there all the time. -/
theorem text_alive (hdst : dstsOk nt ops.toList = true)
    (hrun : ∀ j o, ops.toList[j]? = some o → F (j + 1) = (F j).put o.dst (V j) ∧ RunAt false P ops.toList o (F j) (HH j) (V j) (HH (j + 1)))
    {φ0 : Phi} {w0 : World} {a0 : Act} (s0 : Sim φ0 (HH 0) w0) (f0 : FR φ0 (HH 0) (F 0) a0.tmps) (n0 : a0.tmps.size = nt) (nx : ∀ i, i ≤ ops.size → (HH 0).next ≤ (HH i).next)
    {b : Nat} (hb : b < (HH 0).next) (hl : (HH ops.size).blk b ≠ none) : ∀ i, i ≤ ops.size → (HH i).blk b ≠ none := by
  have step : ∀ i, i < ops.size → (HH (i + 1)).blk b ≠ none → (HH i).blk b ≠ none := fun i hi h1 => by
    obtain ⟨φ, w, a, s, f, hn, hnx⟩ := text_run hdst hrun s0 f0 n0 i (by omega)
    have ho : ops.toList[i]? = some (ops[i]'(by omega)) := by simp
    obtain ⟨hF, hr⟩ := hrun i _ ho
    obtain ⟨a', w', h⟩ := step_extract (P := P) (next := fun _ _ => (HH i).blk b ≠ none)
      (hr.g.wpOp s (fun x _ => f.eval x) (fun j want t _ _ => f t) fun φ' w' cv x r => by
        obtain ⟨k, hk⟩ := Option.ne_none_iff_exists'.1 h1
        obtain ⟨k0, h0, _⟩ := x.back b (by omega) k hk
        rw [h0]
        simp)
    exact h
  have down : ∀ d i, i + d = ops.size → (HH i).blk b ≠ none := fun d => by
    induction d with
    | zero => intro i hi; rw [show i = ops.size by omega]; exact hl
    | succ d ih => exact fun i hi => step i (by omega) (ih (i + 1) (by omega))
  exact fun i hi => down (ops.size - i) i (by omega)

/-- Another world, and one slot more, of which nothing is told. -/
theorem inv_grows {φ0 : Phi} {w0 : World} {L : Nat → Prop} {a : Act} {w w' : World} {p q : Nat} {φ : Phi} (I : Inv P false ops nt F HH φ0 w0 L a w p q φ) (g : Grows w w') {d : Tmp} (hd : ∀ i, i ≤ ops.size → Valid ops L d i → F i d = .chan none) (cv : Value) :
    Inv P false ops nt F HH φ0 w0 L (a.put (some d) cv) w' p q φ where
  pq := I.pq
  qn := I.qn
  done := I.done
  todo := I.todo
  noE := I.noE
  atE := I.atE
  sim := I.sim.grows g
  sc := I.sc
  nd := I.nd
  mp := I.mp
  mj := I.mj
  ext := { I.ext with
    frame := fun cb hcb hn => by rw [g.keep cb (Nat.lt_of_lt_of_le hcb I.ext.size)]; exact I.ext.frame cb hcb hn
    size := Nat.le_trans I.ext.size g.size
    os := g.os.trans I.ext.os
    tape := g.tape.trans I.ext.tape
    output := g.output.trans I.ext.output }
  tm := fun t i hi hv => by
    by_cases h : t = d
    · subst h
      rw [hd i hi hv]
      exact .junk _
    · rw [put_tmps, if_neg fun g => h (Option.some.inj g.1).symm]
      exact I.tm t i hi hv

/-- What a calm operation made before it gets its name now. -/
theorem inv_adopt (hdst : dstsOk nt ops.toList = true)
    (hrun : ∀ j o, ops.toList[j]? = some o → F (j + 1) = (F j).put o.dst (V j) ∧ RunAt false P ops.toList o (F j) (HH j) (V j) (HH (j + 1)))
    (wf : ∀ i, i ≤ ops.size → ∀ b, (HH i).blk b ≠ none → b < (HH i).next) (nx : ∀ i, i ≤ ops.size → (HH 0).next ≤ (HH i).next)
    {φ0 : Phi} {w0 : World} {L : Nat → Prop} {a : Act} {w : World} {p q : Nat} {φ : Phi} (I : Inv P false ops nt F HH φ0 w0 L a w p q φ) (hnt : a.tmps.size = nt)
    {j : Nat} {o : Oper} (ho : ops.toList[j]? = some o) (hjL : ¬ L j) (hpj : p ≤ j) (hjq : j < q)
    (hlater : ∀ i o', ops.toList[i]? = some o' → j < i → L i → ∀ t, writesT o t = true → writesT o' t = false)
    {φ' : Phi} {cv : Value} (sim' : Sim φ' (HH (j + 1)) w) (agr : ∀ b, b < (HH j).next → (HH (j + 1)).blk b ≠ none → φ' b = φ b)
    (map' : ∀ b, (HH j).next ≤ b → (HH (j + 1)).blk b ≠ none → φ' b ≠ none)
    (fresh' : ∀ b cb r, (HH j).next ≤ b → φ' b = some (cb, r) → w0.heap.size ≤ cb ∧ ∀ b' r', φ b' ≠ some (cb, r'))
    (r : VR φ' (HH (j + 1)) (V j) cv) :
    ∃ φn, Inv P false ops nt F HH φ0 w0 (fun i => L i ∨ i = j) (a.put o.dst cv) w p q φn := by
  have le := fun {i k : Nat} (a : p ≤ i) (b : i ≤ k) (c : k ≤ q) => seg_le' hrun I.qn I.noE a b c
  have l1 : (HH j).Le (HH (j + 1)) := le hpj (by omega) (by omega)
  have l2 : (HH (j + 1)).Le (HH q) := le (by omega) (by omega) (Nat.le_refl _)
  have l0 : (HH j).Le (HH q) := l1.trans l2
  have n1 := l1.next
  have n2 := l2.next
  have l00 : (HH 0).next ≤ (HH q).next := I.ext.next
  let φn : Phi := fun b => if (HH j).next ≤ b ∧ b < (HH (j + 1)).next then φ' b else φ b
  have new_eq : ∀ b, (HH j).next ≤ b → b < (HH (j + 1)).next → φn b = φ' b := fun b h1 h2 => by simp only [φn]; rw [if_pos ⟨h1, h2⟩]
  have old_eq : ∀ b, ¬ ((HH j).next ≤ b ∧ b < (HH (j + 1)).next) → φn b = φ b := fun b h => by simp only [φn]; rw [if_neg h]
  have undone : ∀ b, (HH j).next ≤ b → b < (HH (j + 1)).next → φ b = none := I.nd j o ho hpj hjq hjL
  have meet : ∀ b, b < (HH (j + 1)).next → (HH (j + 1)).blk b ≠ none → φn b = φ' b := fun b hb hl => by
    by_cases h : (HH j).next ≤ b
    · exact new_eq b h hb
    · rw [old_eq b (fun h' => h h'.1), agr b (by omega) hl]
  have up' : ∀ v u, VR φ' (HH (j + 1)) v u → VR φn (HH q) v u := fun v u h => h.mono l2.next fun b hb k2 hk2 => by
    rw [l2.blk b hb] at hk2
    exact ⟨k2, hk2, rfl, meet b hb (by rw [hk2]; simp)⟩
  have upo : ∀ v u, VR φ (HH q) v u → VR φn (HH q) v u := fun v u h => by
    have arx : ∀ a a', AR φ (HH q) a a' → AR φn (HH q) a a' := fun a a' h => ⟨h.spot, h.spot', h.off, h.lt, fun k hk => by
      obtain ⟨r, hr⟩ := h.map k hk
      refine ⟨r, ?_⟩
      rw [old_eq _ (fun h' => by rw [undone _ h'.1 h'.2] at hr; cases hr)]
      exact hr⟩
    induction h with
    | junk v => exact .junk v
    | bool b => exact .bool b
    | int k n => exact .int k n
    | string s => exact .string s
    | pnil => exact .pnil
    | ptr h => exact .ptr (arx _ _ h)
    | snil => exact .snil
    | emp a c => exact .emp a c
    | slice h hc hr =>
      exact .slice (arx _ _ h) hc fun k hk he => by
        obtain ⟨r, h1, h2⟩ := hr k hk he
        refine ⟨r, ?_, h2⟩
        rw [old_eq _ (fun h' => by rw [undone _ h'.1 h'.2] at h1; cases h1)]
        exact h1
    | func f xs ys xs' ys' hx hy _ _ rx ry => exact .func f xs ys xs' ys' hx hy rx ry
    | nilFunc => exact .nilFunc
    | nilIface => exact .nilIface
    | iface t v v' _ ih => exact .iface t v v' ih
    | agg xs xs' hx _ rx => exact .agg xs xs' hx rx
    | tuple xs xs' hx _ rx => exact .tuple xs xs' hx rx
  have simn : Sim φn (HH q) w := {
    wf := I.sim.wf
    big := I.sim.big
    glob := fun b k hb hk => by
      have h1 := nx j (by have := I.qn; omega)
      have h2 := I.ext.big
      rw [old_eq b (by omega)]
      exact I.sim.glob b k hb hk
    live := fun b y h => by
      by_cases hb : (HH j).next ≤ b ∧ b < (HH (j + 1)).next
      · rw [new_eq b hb.1 hb.2] at h
        rw [l2.blk b hb.2]
        exact sim'.live b y h
      · rw [old_eq b hb] at h
        exact I.sim.live b y h
    inj := fun b c cb r r' h1 h2 => by
      by_cases hb : (HH j).next ≤ b ∧ b < (HH (j + 1)).next <;> by_cases hc : (HH j).next ≤ c ∧ c < (HH (j + 1)).next
      · rw [new_eq b hb.1 hb.2] at h1; rw [new_eq c hc.1 hc.2] at h2
        exact sim'.inj b c cb r r' h1 h2
      · rw [new_eq b hb.1 hb.2] at h1; rw [old_eq c hc] at h2
        exact absurd h2 ((fresh' b cb r hb.1 h1).2 c r')
      · rw [old_eq b hb] at h1; rw [new_eq c hc.1 hc.2] at h2
        exact absurd h1 ((fresh' c cb r' hc.1 h2).2 b r)
      · rw [old_eq b hb] at h1; rw [old_eq c hc] at h2
        exact I.sim.inj b c cb r r' h1 h2
    cells := fun b k cb r hk hb => by
      by_cases hlt : b < (HH (j + 1)).next
      · rw [l2.blk b hlt] at hk
        rw [meet b hlt (by rw [hk]; simp)] at hb
        obtain ⟨arr, fz, g1, g2, g3, g4, g5⟩ := sim'.cells b k cb r hk hb
        exact ⟨arr, fz, g1, g2, g3, g4, fun i v hv => let ⟨v', h1, h2⟩ := g5 i v hv; ⟨v', h1, up' _ _ h2⟩⟩
      · rw [old_eq b (fun h => hlt h.2)] at hb
        obtain ⟨arr, fz, g1, g2, g3, g4, g5⟩ := I.sim.cells b k cb r hk hb
        exact ⟨arr, fz, g1, g2, g3, g4, fun i v hv => let ⟨v', h1, h2⟩ := g5 i v hv; ⟨v', h1, upo _ _ h2⟩⟩ }
  have extn : PExt φ0 (HH 0) w0 φn (HH q) w := {
    big := I.ext.big
    next := I.ext.next
    back := I.ext.back
    agree := fun b hb hl => by
      have h0 : (HH 0).next ≤ (HH j).next := nx j (by have := I.qn; omega)
      rw [old_eq b (fun h => by omega)]
      exact I.ext.agree b hb hl
    fresh := fun b cb r hb h => by
      by_cases hn : (HH j).next ≤ b ∧ b < (HH (j + 1)).next
      · rw [new_eq b hn.1 hn.2] at h
        exact .inl (fresh' b cb r hn.1 h).1
      · rw [old_eq b hn] at h
        exact I.ext.fresh b cb r hb h
    frame := I.ext.frame
    size := I.ext.size
    os := I.ext.os
    tape := I.ext.tape
    output := I.ext.output }
  refine ⟨φn, ⟨I.pq, I.qn, fun i o' h1 h2 h3 => .inl (I.done i o' h1 h2 h3), ?_, I.noE, I.atE, simn, ?_, ?_, ?_, ?_, extn, tm_step hdst hrun ho hjL hnt hlater I.tm upo (up' _ _ r)⟩⟩
  · intro i o' h1 h2 h3 h4
    rcases h4 with h4 | h4
    · exact I.todo i o' h1 h2 h3 h4
    · omega
  · intro i b k hpi hiq hb hk v hv
    by_cases hn : (HH j).next ≤ b ∧ b < (HH (j + 1)).next
    · rw [new_eq b hn.1 hn.2] at hb
      have hij : j + 1 ≤ i := by
        rcases Nat.lt_or_ge j i with h | h
        · exact h
        · have := wf i (by have := I.qn; omega) b (by rw [hk]; simp)
          have := (le hpi h (by omega)).next
          omega
      have lji := le (i := j + 1) (k := i) (by omega) hij hiq
      rw [lji.blk b hn.2] at hk
      obtain ⟨⟨cb, r1⟩, hx⟩ := Option.ne_none_iff_exists'.1 hb
      obtain ⟨arr, fz, _, _, _, _, g⟩ := sim'.cells b k cb r1 hk hx
      obtain ⟨m, hm, rfl⟩ := List.mem_iff_getElem.1 hv
      obtain ⟨v', _, g2⟩ := g m _ (List.getElem?_eq_getElem hm)
      exact ⟨φ', HH (j + 1), v', lji.next, g2⟩
    · rw [old_eq b hn] at hb
      exact I.sc i b k hpi hiq hb hk v hv
  · intro i o' h1 h2 h3 h4 b hb1 hb2
    have hij : i ≠ j := fun h => h4 (.inr h)
    have hφ := I.nd i o' h1 h2 h3 (fun h => h4 (.inl h)) b hb1 hb2
    rw [old_eq b ?_]
    · exact hφ
    · rintro ⟨g1, g2⟩
      rcases Nat.lt_or_ge i j with h | h
      · have := (le (i := i + 1) (k := j) (by omega) (by omega) (by omega)).next
        omega
      · have := (le (i := j + 1) (k := i) (by omega) (by omega) (by omega)).next
        omega
  · intro b hb1 hb2 hb3
    have := (le (i := p) (k := j) (Nat.le_refl _) hpj (by omega)).next
    rw [old_eq b (fun h => by omega)]
    exact I.mp b hb1 hb2 hb3
  · intro i o' h1 h2 h3 h4 b hb1 hb2 hb3
    by_cases hij : i = j
    · subst hij
      rw [new_eq b hb1 hb2]
      exact map' b hb1 hb3
    · have h4 : L i := h4.elim id fun h => absurd h hij
      rw [old_eq b ?_]
      · exact I.mj i o' h1 h2 h3 h4 b hb1 hb2 hb3
      · rintro ⟨g1, g2⟩
        rcases Nat.lt_or_ge i j with h | h
        · have := (le (i := i + 1) (k := j) (by omega) (by omega) (by omega)).next
          omega
        · have := (le (i := j + 1) (k := i) (by omega) (by omega) (by omega)).next
          omega

end region

section region
variable {P : Program} {ops ops' : Array Oper} {nt : Nat} {F : Nat → Frm} {HH : Nat → Heap} {V : Nat → Value}

/-- The same region but for one operation, which waits for more here. -/
structure Wide (ops ops' : Array Oper) (m : Nat) (al al' : Oper) : Prop where
  size : ops.size = ops'.size
  other : ∀ j, j ≠ m → ops[j]? = ops'[j]?
  at1 : ops[m]? = some al
  at2 : ops'[m]? = some al'
  op : al'.op = al.op
  ty : al'.type = al.type
  dst : al'.dst = al.dst
  guard : al'.guard = al.guard
  after : ∀ e ∈ al.after.toList, e ∈ al'.after.toList

variable {m : Nat} {al al' : Oper}

theorem Wide.yielded (W : Wide ops ops' m al al') (tmps : Array Value) (j : Nat) : yielded ops tmps j = yielded ops' tmps j := by
  unfold Go.yielded
  by_cases h : j = m
  · subst h; rw [W.at1, W.at2]; simp [W.dst]
  · rw [W.other j h]

theorem Wide.closed (W : Wide ops ops' m al al') {L : Nat → Prop} (h : Closed ops' L) : Closed ops L := fun j o hj ho e he hb => by
  by_cases hm : j = m
  · subst hm
    have : ops.toList[j]? = some al := by simpa using W.at1
    rw [this] at ho; cases ho
    exact h j al' hj (by simpa using W.at2) e (W.after e he) hb
  · exact h j o hj (by have := W.other j hm; simpa [this] using ho) e he hb

theorem Wide.ready (W : Wide ops ops' m al al') {listed : Array Bool} (hsz : listed.size = ops.size) {i : Nat} (hi : i ≠ m) : i ∈ Region.ready .any ops listed ↔ i ∈ Region.ready .any ops' listed := by
  rw [mem_ready hsz, mem_ready (ops := ops') (by rw [hsz]; exact W.size), W.size]
  have : ops.toList[i]? = ops'.toList[i]? := by have := W.other i hi; simpa using this
  rw [this]

theorem Wide.wpOp (W : Wide ops ops' m al al') {Q : Exit → Act → World → Prop} {i : Nat} {K : Act → World → Prop} {a : Act} {w : World} (h : wpOp P ops' Q i K a w) : wpOp P ops Q i K a w := by
  by_cases hi : i = m
  · subst hi
    unfold Go.wpOp at h ⊢
    rw [W.at2] at h
    rw [W.at1]
    simp only at h ⊢
    have hw : Region.wanted al' (Go.yielded ops' a.tmps) = Region.wanted al (Go.yielded ops a.tmps) := by
      unfold Region.wanted
      rw [W.guard]
      cases al.guard with
      | none => rfl
      | some q => simp only [W.yielded]
    have he : execOp a.eval al' = execOp a.eval al := by unfold execOp; rw [W.op, W.ty]
    have hwp : al'.wp P a w K Q = al.wp P a w K Q := by
      unfold Oper.wp
      rw [he]
      generalize (execOp a.eval al).run P w = r
      cases r with
      | ok n w' => cases n <;> simp only [Oper.upon, W.dst]
      | halt x w' => cases x <;> simp only [Oper.upon]
    have has : al'.asks P a w = al.asks P a w := by unfold Oper.asks; rw [he]
    rw [hw, hwp, has, W.dst] at h
    exact h
  · exact wpOp_exits (fun _ _ h => h) (fun _ _ _ h => h) (fun _ _ h => h) (W.other i hi).symm (fun o _ tmps => by
      unfold Region.wanted
      cases o.guard with
      | none => rfl
      | some q => simp only [W.yielded]) h

theorem set_comm {l : Array Bool} {i j : Nat} : (l.setIfInBounds i true).setIfInBounds j true = (l.setIfInBounds j true).setIfInBounds i true := by
  apply Array.ext_getElem?
  intro k
  simp only [Array.getElem?_setIfInBounds, Array.size_setIfInBounds]
  by_cases h1 : i = k <;> by_cases h2 : j = k <;> simp [h1, h2]

/-- The game where the list is made at any time. -/
theorem game_lit (W : Wide ops ops' m al al') (hd : drawOkF P false ops'.toList = true) (hdst : dstsOk nt ops'.toList = true)
    (hrun : ∀ j o, ops'.toList[j]? = some o → F (j + 1) = (F j).put o.dst (V j) ∧ RunAt false P ops'.toList o (F j) (HH j) (V j) (HH (j + 1)))
    (wf : ∀ i, i ≤ ops'.size → ∀ b, (HH i).blk b ≠ none → b < (HH i).next) (nx : ∀ i, i ≤ ops'.size → (HH 0).next ≤ (HH i).next)
    (scF : ∀ i t, i ≤ ops'.size → Sc (HH i).next (F i t))
    (hld : ∀ j o, ops'.toList[j]? = some o → isLd o = true → ∀ i oi, j < i → ops'.toList[i]? = some oi → isE false oi.op = true → mayWait false ops'.toList (masks ops'.toList) j i →
      denOp P o (aev (F j)) (fun v' H' => v' = V j ∧ H' = HH (i + 1)) (HH (i + 1)))
    (hld2 : ∀ j o, ops'.toList[j]? = some o → isLd o = true → ∀ i oi, i < j → ops'.toList[i]? = some oi → isE false oi.op = true → ((masks ops'.toList).getD j 0).testBit i = false →
      denOp P o (aev (F j)) (fun v' H' => v' = V j ∧ H' = HH i) (HH i)) {φ0 : Phi} {w0 : World}
    {d : Tmp} (hl : isLit al = true) (had : al.dst = some d) {n esz : Nat} {ty : TypeId} {cells : List Value} (hV : V m = .slice (some ⟨(HH m).next, 0, none⟩) n (2 * n)) (hH : HH (m + 1) = (HH m).alloc cells ty esz)
    (hp : ∀ v ∈ cells, keptC (HH 0) (HH ops'.size) v) (alive : ∀ b, b < (HH 0).next → (HH ops'.size).blk b ≠ none → ∀ i, i ≤ ops'.size → (HH i).blk b ≠ none) (hden : ∀ (H2 : Heap) (k2 : Post), k2 (.slice (some ⟨H2.next, 0, none⟩) n (2 * n)) (H2.alloc cells ty esz) → denOp P al (aev (F m)) k2 H2)
    (c1 : ∀ t, Operand.tmp t ∈ al.op.operands.toList → ∀ j o, ops.toList[j]? = some o → writesT o t = true → j < m ∧ ((masks ops.toList).getD m 0).testBit j = true)
    (c3 : ∀ e' ∈ al'.after.toList, Region.binds .any e' = true → e' ∈ al.after.toList ∨ ∀ i o, ops.toList[i]? = some o → ∀ e ∈ o.after.toList, Region.binds .any e = true → e.on = m → ((masks ops.toList).getD i 0).testBit e'.on = true)
    (c4 : ∀ j o, ops.toList[j]? = some o → j ≠ m → writesT o d = false) (hF : ∀ i, i ≤ m → F i d = .chan none) :
    ∀ (fuel : Nat),
      (∀ (listed : Array Bool) (a : Act) (w : World) (p q : Nat) (φ : Phi), left listed = fuel → listed.size = ops.size → Closed ops' (isIn listed) → a.tmps.size = nt → a.defers = [] → Inv P false ops' nt F HH φ0 w0 (isIn listed) a w p q φ →
        wpAny P .any ops (fun e' a' w' => e' = .normal ∧ a'.defers = [] ∧ a'.tmps.size = nt ∧ ∃ φ', Ext φ0 (HH 0) w0 φ' (HH ops'.size) w' ∧ FR φ' (HH ops'.size) (F ops'.size) a'.tmps) fuel listed a w) ∧
      (∀ (listed : Array Bool) (a : Act) (w : World) (p q : Nat) (φ φ1 : Phi), left listed = fuel + 1 → listed.size = ops.size → Closed ops' (isIn listed) → Closed ops (isIn (listed.setIfInBounds m true)) → ¬ isIn listed m → m ∉ Region.ready .any ops' listed →
        a.tmps.size = nt → a.defers = [] → Inv P false ops' nt F HH φ0 w0 (isIn listed) a w p q φ → LF (VR φ0 (HH 0)) φ w0 w a d (HH m).next n esz ty cells φ1 →
        wpAny P .any ops (fun e' a' w' => e' = .normal ∧ a'.defers = [] ∧ a'.tmps.size = nt ∧ ∃ φ', Ext φ0 (HH 0) w0 φ' (HH ops'.size) w' ∧ FR φ' (HH ops'.size) (F ops'.size) a'.tmps) fuel (listed.setIfInBounds m true) a w) := by
  have hm : m < ops.size := (Array.getElem?_eq_some_iff.1 W.at1).1
  have hm' : m < ops'.size := W.size ▸ hm
  have hL1 : ops.toList[m]? = some al := by simpa using W.at1
  have hL2 : ops'.toList[m]? = some al' := by simpa using W.at2
  have hother : ∀ j, j ≠ m → ops.toList[j]? = ops'.toList[j]? := fun j hj => by have := W.other j hj; simpa using this
  have hgn : al.guard = none := (isLit_spec hl).1
  have hl' : isLit al' = true := by
    obtain ⟨g, t, n, ps, e⟩ := isLit_spec hl
    unfold isLit
    rw [W.guard, W.op, g, e]
  have edge' : ∀ j o e, ops'.toList[j]? = some o → e ∈ o.after.toList → Region.binds .any e = true → e.on < j := fun j o e ho he hb => drawOkF_edge hd ho he hb
  have edge : ∀ j o e, ops.toList[j]? = some o → e ∈ o.after.toList → Region.binds .any e = true → e.on < j := fun j o e ho he hb => by
    by_cases hj : j = m
    · subst hj
      rw [hL1] at ho; cases ho
      exact edge' j al' e hL2 (W.after e he) hb
    · exact edge' j o e (by rw [← hother j hj]; exact ho) he hb
  have allL : ∀ listed : Array Bool, listed.size = ops.size → Region.ready .any ops listed = [] → ∀ j, j < ops.size → isIn listed j := by
    intro listed hsz h j
    induction j using Nat.strongRecOn with
    | _ j ih =>
      intro hj
      apply Classical.byContradiction
      intro hn
      have : j ∈ Region.ready .any ops listed := (mem_ready hsz).2 ⟨hj, hn, fun o ho e he hb => by
        have := edge j o e ho he hb
        exact ih e.on this (by omega)⟩
      rw [h] at this
      cases this
  have fin : ∀ (listed : Array Bool) (a : Act) (w : World) (p q : Nat) (φ : Phi), a.tmps.size = nt → a.defers = [] → Inv P false ops' nt F HH φ0 w0 (isIn listed) a w p q φ → (∀ j, j < ops.size → isIn listed j) →
      (.normal : Exit) = .normal ∧ a.defers = [] ∧ a.tmps.size = nt ∧ ∃ φ', Ext φ0 (HH 0) w0 φ' (HH ops'.size) w ∧ FR φ' (HH ops'.size) (F ops'.size) a.tmps := fun listed a w p q φ hnt hdf I all =>
    ⟨rfl, hdf, hnt, φ, inv_fin hrun I (by rw [← W.size]; exact all)⟩
  have next : ∀ (listed : Array Bool), listed.size = ops.size → Closed ops' (isIn listed) → ∀ i, i ∈ Region.ready .any ops' listed → i < ops.size ∧ ¬ isIn listed i ∧ left (listed.setIfInBounds i true) + 1 = left listed ∧ Closed ops' (isIn (listed.setIfInBounds i true)) ∧ isIn (listed.setIfInBounds i true) = fun m => isIn listed m ∨ m = i := fun listed hsz hcl i hi => by
    obtain ⟨hin, hiL, hie⟩ := (mem_ready (ops := ops') (by rw [hsz]; exact W.size)).1 hi
    rw [← W.size] at hin
    have hset := isIn_set (listed := listed) (i := i) (by omega)
    refine ⟨hin, hiL, left_set (by omega) hiL, ?_, hset⟩
    rw [hset]
    intro j o' hj ho' e he hb
    rcases hj with hj | hj
    · exact .inl (hcl j o' hj ho' e he hb)
    · subst hj; exact .inl (hie o' ho' e he hb)
  -- the list is not there alone
  have notDone : ∀ listed : Array Bool, listed.size = ops.size → ¬ isIn listed m → m ∉ Region.ready .any ops' listed → ¬ ∀ j, j < ops.size → isIn (listed.setIfInBounds m true) j := fun listed hsz hmL hnr hall => by
    refine hnr ((mem_ready (ops := ops') (by rw [hsz]; exact W.size)).2 ⟨hm', hmL, fun o ho e he hb => ?_⟩)
    have h1 := edge' m o e ho he hb
    have h2 := hall e.on (by omega)
    rw [isIn_set (by omega)] at h2
    exact h2.elim id fun g => by omega
  intro fuel
  induction fuel with
  | zero =>
    refine ⟨fun listed a w p q φ hlf hsz hcl hnt hdf I => ?_, fun listed a w p q φ φ1 hlf hsz hcl hcl2 hmL hnr hnt hdf I A => ?_⟩
    · have all : ∀ j, j < ops.size → isIn listed j := fun j hj => left_zero hlf j (by rw [hsz]; exact hj)
      refine ⟨?_, fin listed a w p q φ hnt hdf I all⟩
      cases hr : Region.ready .any ops listed with
      | nil => rfl
      | cons i l =>
        have := (mem_ready (i := i) hsz).1 (by rw [hr]; simp)
        exact absurd (all i this.1) this.2.1
    · have h1 := left_set (listed := listed) (i := m) (by omega) hmL
      exact absurd (fun j hj => left_zero (show left (listed.setIfInBounds m true) = 0 by omega) j (by simp [hsz]; exact hj)) (notDone listed hsz hmL hnr)
  | succ fuel ih =>
    refine ⟨fun listed a w p q φ hlf hsz hcl hnt hdf I => ?_, fun listed a w p q φ φ1 hlf hsz hcl hcl2 hmL hnr hnt hdf I A => ?_⟩
    · refine ⟨fun hr => fin listed a w p q φ hnt hdf I (allL listed hsz hr), fun i hi => ?_⟩
      by_cases hi' : i ∈ Region.ready .any ops' listed
      · obtain ⟨hin, hiL, n1, n2, n3⟩ := next listed hsz hcl i hi'
        refine W.wpOp (wpOp_mono (fun a' w' h => ?_) (game_step hd hdst hrun wf nx scF hld hld2 listed a w p q φ (by rw [hsz]; exact W.size) hcl hnt hdf I i hi' _))
        obtain ⟨p', q', φ', J, _, h1, h2, _⟩ := h
        exact ih.1 _ _ _ p' q' φ' (by omega) (by simp [hsz]) n2 h1 h2 (by rw [n3]; exact J)
      · -- the list, early
        have him : i = m := Classical.byContradiction fun h => hi' ((W.ready hsz h).1 hi)
        subst him
        obtain ⟨_, hmL, hme⟩ := (mem_ready hsz).1 hi
        have hset := isIn_set (listed := listed) (i := i) (by omega)
        have hcl2 : Closed ops (isIn (listed.setIfInBounds i true)) := by
          rw [hset]
          intro j o' hj ho' e he hb
          rcases hj with hj | hj
          · exact .inl (W.closed hcl j o' hj ho' e he hb)
          · subst hj; exact .inl (hme o' ho' e he hb)
        have valid : ∀ t, Operand.tmp t ∈ al.op.operands.toList → Valid ops' (isIn listed) t i := fun t ht => by
          refine ⟨fun j o ho hj hw => ?_, fun j o ho hj hw hL => ?_⟩
          · rw [← hother j (by omega)] at ho
            have := masks_spec hcl2 i (by rw [hset]; exact .inr rfl) j (c1 t ht j o ho hw).2
            rw [hset] at this
            exact this.elim id fun g => by omega
          · by_cases hji : j = i
            · subst hji; exact hmL hL
            · rw [← hother j hji] at ho
              have := (c1 t ht j o ho hw).1
              omega
        obtain ⟨_, _, ⟨rfl, rfl⟩, hs⟩ := denOp_sound (hden (roH (HH q)) (fun v H => v = .slice (some ⟨(HH q).next, 0, none⟩) n (2 * n) ∧ H = (roH (HH q)).alloc cells ty esz) ⟨rfl, rfl⟩)
        unfold Go.wpOp
        rw [W.at1]
        simp only []
        rw [if_pos (by simp [Region.wanted, hgn])]
        refine .inl (hs φ w a _ _ (roH_sim I.sim) (fun x hx => roH_VR ?_) fun φ1 w' cv x r => ?_)
        · cases x with
          | tmp t => exact I.tm t i (by omega) (valid t hx)
          | const v =>
            simp only [aev, cst, Act.eval]
            split
            · exact plainV_VR (by assumption)
            · exact .junk _
          | global g => exact .junk _
          | func f => exact .func f #[] #[] #[] #[] rfl rfl (fun i h => by simp at h) (fun i h => by simp at h)
        · have hro : ∀ b k, (roH (HH q)).blk b = some k → k.ro = true := fun b k h => by
            simp only [roH, Option.map_eq_some_iff] at h
            obtain ⟨_, _, rfl⟩ := h
            rfl
          have g : Grows w w' := ⟨x.size, fun cb hcb => x.frame cb hcb fun b k r _ hk => hro b k hk, x.os, x.tape, x.output⟩
          rw [had]
          have J := inv_grows I g (d := d) (fun j hj hv => by
            rcases Nat.lt_or_ge i j with h | h
            · exact absurd (hv.1 i al' hL2 h (by unfold writesT; rw [W.dst, had]; simp)) hmL
            · exact hF j h) cv
          have hdn : d < nt := dstsOk_spec hdst (List.mem_of_getElem? hL2) d (by rw [W.dst, had])
          have hqs : q ≤ ops'.size := I.qn
          have nxi : (HH 0).next ≤ (HH i).next := nx i (by omega)
          have nxq : (HH 0).next ≤ (HH q).next := nx q hqs
          have newk : ((roH (HH q)).alloc cells ty esz).blk (HH q).next = some ⟨cells, ty, esz, false⟩ := by simp [Heap.alloc, roH]
          obtain ⟨⟨cb0, r0⟩, hφ1⟩ := Option.ne_none_iff_exists'.1 (x.mapped (HH q).next (Nat.le_refl _) (by rw [newk]; simp))
          have hcb0 : w.heap.size ≤ cb0 := by
            rcases x.fresh _ cb0 r0 (Nat.le_refl _) hφ1 with h | ⟨b0, k0, r0, _, _, h, h2, _⟩
            · exact h
            · rw [hro b0 k0 h] at h2; cases h2
          obtain ⟨arr, fz, e1, e2, e3, e4, e5⟩ := x.sim.cells _ _ cb0 r0 newk hφ1
          have kc : ∀ v u, v ∈ cells → VR φ1 ((roH (HH q)).alloc cells ty esz) v u → VR φ0 (HH 0) v u := fun v u hv h => by
            refine kept_down ?_ h
            rcases hp v hv with g | ⟨b, n', e', rfl, g1, g2⟩
            · exact .inl g
            · have hl := alive b.block g1 g2 q hqs
              obtain ⟨k, hk⟩ := Option.ne_none_iff_exists'.1 hl
              obtain ⟨k0, h0, _, _, h3⟩ := I.ext.back b.block g1 k hk
              have hb : ((roH (HH q)).alloc cells ty esz).blk b.block = some { k with ro := true } := by
                have hne : ¬ b.block = (HH q).next := by omega
                simp [Heap.alloc, roH, hne, hk]
              refine .inr ⟨b, n', e', rfl, g1, _, hb, fun k0' h0' => ?_, ?_⟩
              · rw [h0] at h0'; cases h0'; exact h3.symm
              · exact (x.agree b.block (show b.block < (HH q).next by omega) (by rw [hb]; simp)).trans (I.ext.agree b.block g1 hl)
          refine ih.2 listed _ w' p q φ (fun b => if b = (HH i).next then φ1 (HH q).next else none) hlf hsz hcl hcl2 hmL hi' (by rw [put_size]; exact hnt) (by rw [put_defers]; exact hdf) J
            ⟨⟨fun b hb => ?_, fun b y hb => ?_, fun b c cb r r' hb hc => ?_, fun b k cb r hk hb => ?_, (by have h1 := nx i (by omega); have h2 := I.ext.big; simp only [Heap.alloc, bare]; omega),
              (fun b k hb hk => absurd hk (by have h1 := nx i (by omega); have h2 := I.ext.big; simp [Heap.alloc, bare, show ¬ b = (HH i).next by omega]))⟩, ?_, fun cb r hb => ?_, ?_, fun cb r hcb arr' t fz' hw j v hv => ?_⟩
          · by_cases h : b = (HH i).next
            · subst h; simp [Heap.alloc, bare]
            · simp [Heap.alloc, bare, h] at hb
          · by_cases h : b = (HH i).next
            · subst h; simp [Heap.alloc, bare]
            · simp only [if_neg h] at hb; cases hb
          · have h1 : b = (HH i).next := Classical.byContradiction fun h => by simp only [if_neg h] at hb; cases hb
            have h2 : c = (HH i).next := Classical.byContradiction fun h => by simp only [if_neg h] at hc; cases hc
            rw [h1, h2]
          · have h1 : b = (HH i).next := Classical.byContradiction fun h => by simp only [if_neg h] at hb; cases hb
            subst h1
            simp only [if_true] at hb
            rw [hφ1] at hb
            cases hb
            simp only [Heap.alloc, bare, if_true, Option.some.injEq] at hk
            subst hk
            refine ⟨arr, fz, e1, e2, e3, e4, fun j v hv => ?_⟩
            obtain ⟨v', q1, q2⟩ := e5 j v hv
            refine ⟨v', q1, ?_⟩
            rcases hp v (List.mem_of_getElem? hv) with g | ⟨b, n', e', rfl, g1, g2⟩
            · exact plain_VR2 g q2
            · have hbn : ∀ k, (Heap.alloc (bare (HH i).next) cells ty esz).blk b.block = some k → False := fun k hk => by
                have hne : ¬ b.block = (HH i).next := by omega
                simp [Heap.alloc, bare, hne] at hk
              cases q2 with
              | slice h hc hr => exact .slice ⟨h.spot, h.spot', h.off, by simp only [Heap.alloc, bare]; omega, fun k hk => (hbn k hk).elim⟩ hc fun k hk _ => (hbn k hk).elim
          · simp only [if_true]; rw [hφ1]; simp
          · simp only [if_true] at hb
            rw [hφ1] at hb
            cases hb
            refine ⟨Nat.le_trans I.ext.size hcb0, fun b r' hb' => ?_⟩
            have := I.sim.lt hb'
            omega
          · rw [put_tmps, if_pos ⟨rfl, by rw [hnt]; exact hdn⟩]
            cases r with
            | slice h hc hr =>
              refine .slice ⟨h.spot, h.spot', h.off, by simp [Heap.alloc, bare], fun k hk => ?_⟩ hc fun k hk he => by omega
              obtain ⟨r, hr⟩ := h.map _ newk
              exact ⟨r, by simp only [if_true]; exact hr⟩
          · simp only [if_true] at hcb
            rw [hφ1] at hcb
            cases hcb
            rw [e1] at hw
            cases hw
            obtain ⟨v', q1, q2⟩ := e5 j v hv
            exact ⟨v', q1, kc v v' (List.mem_of_getElem? hv) q2⟩
    · have hsz2 : (listed.setIfInBounds m true).size = ops.size := by simp [hsz]
      have hsetm := isIn_set (listed := listed) (i := m) (by omega)
      refine ⟨fun hr => absurd (allL _ hsz2 hr) (notDone listed hsz hmL hnr), fun i hi => ?_⟩
      obtain ⟨hin, hiL2, hie⟩ := (mem_ready hsz2).1 hi
      rw [hsetm] at hiL2 hie
      have him : i ≠ m := fun h => hiL2 (.inr h)
      have hiL : ¬ isIn listed i := fun h => hiL2 (.inl h)
      have hcl3 : Closed ops (fun j => (isIn listed j ∨ j = m) ∨ j = i) := fun j o' hj ho' e he hb => by
        rcases hj with hj | hj
        · have := hcl2 j o' (by rw [hsetm]; exact hj) ho' e he hb
          rw [hsetm] at this
          exact .inl this
        · subst hj; exact .inl (hie o' ho' e he hb)
      have noM : ∀ o e, ops.toList[i]? = some o → e ∈ o.after.toList → Region.binds .any e = true → e.on ≠ m := fun o e ho he hb hon => by
        refine hnr ((mem_ready (ops := ops') (by rw [hsz]; exact W.size)).2 ⟨hm', hmL, fun o' ho' e' he' hb' => ?_⟩)
        rw [hL2] at ho'; cases ho'
        have h1 := edge' m al' e' hL2 he' hb'
        have h2 := edge i o e ho he hb
        rcases c3 e' he' hb' with h | h
        · have := hcl2 m al (by rw [hsetm]; exact .inr rfl) hL1 e' h hb'
          rw [hsetm] at this
          exact this.elim id fun g => by omega
        · have := masks_spec hcl3 i (.inr rfl) e'.on (h i o ho e he hb hon)
          rcases this with (g | g) | g
          · exact g
          · omega
          · omega
      have hi' : i ∈ Region.ready .any ops' listed := (W.ready hsz him).1 ((mem_ready hsz).2 ⟨hin, hiL, fun o ho e he hb => (hie o ho e he hb).elim id fun g => absurd g (noM o e ho he hb)⟩)
      obtain ⟨_, _, n1, n2, n3⟩ := next listed hsz hcl i hi'
      refine W.wpOp (wpOp_mono (fun a' w' h => ?_) (game_step hd hdst hrun wf nx scF hld hld2 listed a w p q φ (by rw [hsz]; exact W.size) hcl hnt hdf I i hi' _))
      obtain ⟨p', q', φ', J, kp, h1, h2, o, cv, h3, rfl⟩ := h
      have A' := A.step kp (o := o) (cv := cv) (c4 i o (by rw [hother i him]; exact h3) him)
      have hszi : (listed.setIfInBounds i true).size = ops.size := by simp [hsz]
      rw [set_comm]
      have hmi : ¬ isIn (listed.setIfInBounds i true) m := by rw [n3]; exact fun h => h.elim hmL fun g => him g.symm
      by_cases hr2 : m ∈ Region.ready .any ops' (listed.setIfInBounds i true)
      · -- the list gets its name
        obtain ⟨_, _, k1, k2, k3⟩ := next _ hszi n2 m hr2
        rw [← n3] at J
        have hqn := J.qn
        have hflm : isFl P al' = false := by
          unfold isFl
          rw [isLit_pure hl', isLit_ld hl']
          rfl
        have hpm : p' ≤ m := by
          rcases Nat.lt_or_ge m p' with h | h
          · exact absurd (J.done m al' hL2 hflm h) hmi
          · exact h
        have hmq : m < q' := by
          rcases Nat.lt_or_ge m q' with h | h
          · exact h
          · exfalso
            have hq : q' < ops'.size := by omega
            have hoq : ops'.toList[q']? = some (ops'[q']'hq) := by simp
            have hE := J.atE _ hoq
            by_cases hqm : q' = m
            · subst hqm
              rw [hL2] at hoq
              cases hoq
              rw [isLit_E hl'] at hE; cases hE
            · have hbit := drawOkF_clash hd hoq hL2 (by omega) (by
                unfold isFl at hflm
                simp [clashF, hE, hflm])
              have := masks_spec k2 m (by rw [k3]; exact .inr rfl) q' hbit
              rw [k3] at this
              rcases this with g | g
              · exact J.todo q' _ hoq (isE_fl hE) (Nat.le_refl _) g
              · exact hqm g
        have le0 : (HH m).Le (HH q') := seg_le' hrun J.qn J.noE hpm (Nat.le_of_lt hmq) (Nat.le_refl _)
        obtain ⟨s1, r1⟩ := A'.name (fun v u hv h => by
          have h0 : Sc (HH m).next v := ⟨φ0, HH 0, u, nx m (by omega), h⟩
          have h1 : VR φ' (HH q') v u := h.mono J.ext.next fun b hb k2 hk2 => let ⟨k, g1, _, _, g4⟩ := J.ext.back b hb k2 hk2; ⟨k, g1, g4, J.ext.agree b hb (by rw [hk2]; simp)⟩
          exact h1.down h0 fun b hb k1 hk1 => ⟨k1, by rw [le0.blk b hb]; exact hk1, rfl, by simp only [if_pos hb]⟩) (J.sim.down (Nat.le_trans J.ext.big (nx m (by omega))) le0 (wf m (by omega)) (fun b k hb hk => J.sc m b k hpm (Nat.le_of_lt hmq) hb hk))
        rw [← hH] at s1 r1
        rw [← hV] at r1
        obtain ⟨φn, J2⟩ := inv_adopt hdst hrun wf nx J h1 hL2 hmi hpm hmq (fun j o' ho' hj hL t ht => by
            have hdt : t = d := by
              unfold writesT at ht
              rw [W.dst, had] at ht
              exact (Nat.eq_of_beq_eq_true ht).symm
            subst hdt
            exact c4 j o' (by rw [hother j (by omega)]; exact ho') (by omega)) s1
          (fun b hb hl => by
            unfold nameP
            rw [if_neg (by omega), if_pos hb])
          (fun b hb hl => by
            rw [hH] at hl
            by_cases h : b = (HH m).next
            · subst h
              unfold nameP
              rw [if_pos rfl]
              exact A'.named
            · simp only [Heap.alloc, if_neg h] at hl
              have := wf m (by omega) b hl
              omega)
          (fun b cb r hb h => by
            unfold nameP at h
            split at h
            · rename_i e
              subst e
              exact A'.free cb r h
            · rw [if_neg (by omega)] at h; cases h) r1
        have same : (a.put o.dst cv).put al'.dst ((a.put o.dst cv).tmps.getD d undef) = a.put o.dst cv := by
          rw [W.dst, had]
          have hdn : d < (a.put o.dst cv).tmps.size := by rw [h1]; exact dstsOk_spec hdst (List.mem_of_getElem? hL2) d (by rw [W.dst, had])
          generalize a.put o.dst cv = b at hdn ⊢
          unfold Act.put
          have : b.tmps.setIfInBounds d (b.tmps.getD d undef) = b.tmps := by
            apply Array.ext_getElem?
            intro k
            rw [Array.getElem?_setIfInBounds]
            split
            · rename_i e
              subst e
              simp [hdn]
            · rfl
          simp only [this]
        rw [same] at J2
        exact ih.1 _ _ _ p' q' φn (by omega) (by simp [hsz]) k2 h1 h2 (by rw [k3]; exact J2)
      · refine ih.2 _ _ _ p' q' φ' φ1 (by omega) hszi n2 ?_ hmi hr2 h1 h2 (by rw [n3]; exact J) A'
        rw [set_comm, isIn_set (by simp; omega), hsetm]
        exact hcl3

end region

/-- The writes ahead of a list in the text that it need not wait for. -/
def litExtra (ops : List Oper) (m : Nat) : List Edge :=
  (ops.take m).zipIdx.filterMap fun q => match isE false q.1.op && !((masks ops).getD m 0).testBit q.2 with | true => some { on := q.2, ground := .chain } | false => none

def litAt (ops : List Oper) : Nat :=
  match (List.range ops.length).find? fun j => match ops[j]? with | some o => isLit o && !(litExtra ops j).isEmpty | none => false with
  | some j => j
  | none => ops.length

def widenO (ops : List Oper) (m : Nat) (al : Oper) : Oper := { al with after := al.after ++ (litExtra ops m).toArray }

def slotsOf (o : Oper) : List Tmp := o.op.operands.toList.filterMap fun x => match x with | .tmp t => some t | _ => none

def drawLit (P : Program) (ops : List Oper) : Bool :=
  match ops[litAt ops]? with
  | some al =>
    isLit al && drawOkF P false (ops.set (litAt ops) (widenO ops (litAt ops) al)) &&
    (ops.zipIdx.all fun q => !(slotsOf al).any (writesT q.1) || (Nat.blt q.2 (litAt ops) && ((masks ops).getD (litAt ops) 0).testBit q.2)) &&
    (ops.zipIdx.all fun q => q.1.after.toList.all fun e => !(Region.binds .any e && Nat.beq e.on (litAt ops)) || (litExtra ops (litAt ops)).all fun e' => ((masks ops).getD q.2 0).testBit e'.on) &&
    (match al.dst with | some d => ops.zipIdx.all fun q => Nat.beq q.2 (litAt ops) || !writesT q.1 d | none => false)
  | none => false

/-- Values that are plain, or composites of plain ones, or slices of what was there at first and still is. -/
def W.flat (vs : List Value) (H0 H : Heap) (K : Heap → Prop) : Prop := (∀ v ∈ vs, keptV H0 H v) ∧ K H

def denOpsB (P : Program) (ops : List Oper) (K : Frm → Heap → Prop) (fr : Frm) (H : Heap) : Prop :=
  match ops[litAt ops]? with
  | some al =>
    match al.dst with
    | some d => denOpsF false P (ops.set (litAt ops) (widenO ops (litAt ops) al)) (masks (ops.set (litAt ops) (widenO ops (litAt ops) al))) (ops.set (litAt ops) (widenO ops (litAt ops) al)) 0 [] []
        (fun fr' H' => W.flat (al.op.operands.toList.map (aev fr')) H H' (K fr')) (fr.put (some d) (.chan none)) H
    | none => False
  | none => False

theorem denOpsB_sound {P : Program} {ops : Array Oper} {K : Frm → Heap → Prop} {id : Nat} (nt : Nat) (hm : P.follows .mixedOrders = true) (hd : drawLit P ops.toList = true) (hdst : dstsOk nt ops.toList = true)
    {fr : Frm} {H : Heap} (h : denOpsB P ops.toList K fr H) :
    ∃ fr' H', K fr' H' ∧ (∀ t, opsDst ops.toList t = false → fr' t = fr t) ∧ CStep P (.region id ops true) nt fr H .normal fr' H' := by
  unfold drawLit at hd
  unfold denOpsB at h
  generalize hmm : litAt ops.toList = m at hd h
  cases hal : ops.toList[m]? with
  | none => rw [hal] at hd; cases hd
  | some al =>
  simp only [hal] at hd h
  cases had : al.dst with
  | none => rw [had] at h; exact h.elim
  | some d =>
  simp only [had] at hd h
  simp only [Bool.and_eq_true] at hd
  obtain ⟨⟨⟨⟨q1, q2⟩, q3⟩, q4⟩, q5⟩ := hd
  have hmlt : m < ops.size := by have := (List.getElem?_eq_some_iff.1 hal).1; simpa using this
  obtain ⟨ops', hops'⟩ : ∃ ops' : Array Oper, ops' = ops.setIfInBounds m (widenO ops.toList m al) := ⟨_, rfl⟩
  have htl : ops.toList.set m (widenO ops.toList m al) = ops'.toList := by rw [hops', Array.toList_setIfInBounds]
  rw [htl] at q2 h
  have hsz : ops.size = ops'.size := by rw [hops']; simp
  have W : Wide ops ops' m al (widenO ops.toList m al) := {
    size := hsz
    other := fun j hj => by rw [hops', Array.getElem?_setIfInBounds_ne (fun e => hj e.symm)]
    at1 := by simpa using hal
    at2 := by rw [hops']; simp [hmlt]
    op := rfl
    ty := rfl
    dst := rfl
    guard := rfl
    after := fun e he => by simp only [widenO, Array.toList_append, List.mem_append]; exact .inl he }
  have hother : ∀ j, j ≠ m → ops.toList[j]? = ops'.toList[j]? := fun j hj => by have := W.other j hj; simpa using this
  have hL2 : ops'.toList[m]? = some (widenO ops.toList m al) := by simpa using W.at2
  have hwr : ∀ (j : Nat) (o' : Oper), ops'.toList[j]? = some o' → ∃ o : Oper, ops.toList[j]? = some o ∧ o.dst = o'.dst := fun j o' ho => by
    by_cases hj : j = m
    · subst hj; rw [hL2] at ho; cases ho; exact ⟨al, hal, rfl⟩
    · exact ⟨o', by rw [hother j hj]; exact ho, rfl⟩
  have hdst' : dstsOk nt ops'.toList = true := by
    unfold dstsOk at hdst ⊢
    rw [List.all_eq_true] at hdst ⊢
    intro o' ho'
    obtain ⟨j, hj⟩ := List.mem_iff_getElem?.1 ho'
    obtain ⟨o, h1, h2⟩ := hwr j o' hj
    have := hdst o (List.mem_of_getElem? h1)
    rw [h2] at this
    exact this
  have c1 : ∀ t, Operand.tmp t ∈ al.op.operands.toList → ∀ j o, ops.toList[j]? = some o → writesT o t = true → j < m ∧ ((masks ops.toList).getD m 0).testBit j = true := fun t ht j o ho hw => by
    have := List.all_eq_true.1 q3 (o, j) (List.mem_zipIdx_iff_getElem?.2 ho)
    have hany : (slotsOf al).any (writesT o) = true := List.any_eq_true.2 ⟨t, List.mem_filterMap.2 ⟨_, ht, rfl⟩, hw⟩
    simp only [hany, Bool.not_true, Bool.false_or, Bool.and_eq_true] at this
    exact ⟨Nat.le_of_ble_eq_true this.1, this.2⟩
  have c3 : ∀ e' ∈ (widenO ops.toList m al).after.toList, Region.binds .any e' = true → e' ∈ al.after.toList ∨ ∀ i o, ops.toList[i]? = some o → ∀ e ∈ o.after.toList, Region.binds .any e = true → e.on = m → ((masks ops.toList).getD i 0).testBit e'.on = true := fun e' he' _ => by
    simp only [widenO, Array.toList_append, List.mem_append] at he'
    rcases he' with he' | he'
    · exact .inl he'
    · refine .inr fun i o ho e he hb hon => ?_
      have := List.all_eq_true.1 (List.all_eq_true.1 q4 (o, i) (List.mem_zipIdx_iff_getElem?.2 ho)) e he
      simp only [hb, hon, Nat.beq_refl, Bool.and_self, Bool.not_true, Bool.false_or] at this
      exact List.all_eq_true.1 this e' he'
  have c4 : ∀ j o, ops.toList[j]? = some o → j ≠ m → writesT o d = false := fun j o ho hj => by
    have := List.all_eq_true.1 q5 (o, j) (List.mem_zipIdx_iff_getElem?.2 ho)
    have hb : Nat.beq j m = false := by
      cases hc : Nat.beq j m with
      | false => rfl
      | true => exact absurd (Nat.eq_of_beq_eq_true hc) hj
    simpa [hb] using this
  obtain ⟨F, HH, V, h1, h2, ⟨h3f, h3⟩, h4, _, h6, _, h8⟩ := denOpsF_run ops'.toList 0 [] [] _ _ h (fun i => by simp) (by simp)
  rw [show ops'.toList.length = ops'.size by simp] at h3 h3f
  have hrun : ∀ j o, ops'.toList[j]? = some o → F (j + 1) = (F j).put o.dst (V j) ∧ RunAt false P ops'.toList o (F j) (HH j) (V j) (HH (j + 1)) := fun j o ho => h4 j o (Nat.zero_le _) ho
  have hF : ∀ i, i ≤ m → F i d = .chan none := fun i hi => by
    have := same_slot hrun d i 0 (by omega) fun j o ho _ hj => c4 j o (by rw [hother j (by omega)]; exact ho) (by omega)
    rw [Nat.zero_add] at this
    rw [this, h1]
    simp [Frm.put]
  have hflat : ∀ x, x ∈ al.op.operands.toList → keptV (HH 0) (HH ops'.size) (aev (F m) x) := fun x hx => by
    have h0 := h3f _ (List.mem_map.2 ⟨x, hx, rfl⟩)
    rw [← h2] at h0
    have : aev (F ops'.size) x = aev (F m) x := by
      cases x with
      | tmp t =>
        have := same_slot hrun t (ops'.size - m) m (by omega) fun j o' ho hj _ => by
          obtain ⟨o, g1, g2⟩ := hwr j o' ho
          cases hw : writesT o' t with
          | false => rfl
          | true =>
            have := (c1 t hx j o g1 (by unfold writesT at hw ⊢; rw [g2]; exact hw)).1
            omega
        rw [show m + (ops'.size - m) = ops'.size by omega] at this
        exact this
      | const v => rfl
      | global g => rfl
      | func f => rfl
    rw [← this]
    exact h0
  obtain ⟨n, esz, ty, cells, zc, pa, g1, g2, g3, ⟨g4, g5⟩, g6⟩ := denOp_lit (o := al) q1 (k := fun v' H2 => v' = V m ∧ H2 = HH (m + 1)) (ev := aev (F m)) (P := P) (H := HH m) (by
    have := (hrun m _ hL2).2.lit (by
      obtain ⟨e1, t, n, ps, e2⟩ := isLit_spec q1
      unfold isLit widenO
      rw [e1, e2])
    unfold denOp at this ⊢
    exact this)
  refine ⟨F ops'.size, HH ops'.size, h3, fun t ht => ?_, fun φ w a s f hn hdf => wp_region_any hm ?_⟩
  · have hdt : Nat.beq d t = false := by
      unfold opsDst at ht
      rw [List.any_eq_false] at ht
      have := ht al (List.mem_of_getElem? hal)
      rw [had] at this
      cases hb : Nat.beq d t with
      | false => rfl
      | true => exact absurd hb this
    have e3 := same_slot hrun t ops'.size 0 (by omega) fun j o' ho _ _ => by
      obtain ⟨o, e1, e2⟩ := hwr j o' ho
      unfold opsDst at ht
      rw [List.any_eq_false] at ht
      have := ht o (List.mem_of_getElem? e1)
      unfold writesT
      rw [← e2]
      cases hod : o.dst with
      | none => rfl
      | some d' =>
        rw [hod] at this
        simp only at this ⊢
        cases hb : Nat.beq d' t with
        | false => rfl
        | true => exact absurd hb this
    rw [Nat.zero_add] at e3
    rw [e3, h1]
    exact Frm.put_ne (d := some d) hdt
  · have f0 : FR φ (HH 0) (F 0) a.tmps := fun t => by
      rw [h1, h2]
      by_cases hb : Nat.beq d t = true
      · have := Nat.eq_of_beq_eq_true hb
        subst this
        have e : fr.put (some d) (.chan none) d = .chan none := by simp [Frm.put]
        rw [e]
        exact .junk _
      · rw [Frm.put_ne (d := some d) (show Nat.beq d t = false from by cases hc : Nat.beq d t with | false => rfl | true => exact absurd hc hb)]
        exact f t
    have s0 : Sim φ (HH 0) w := by rw [h2]; exact s
    have tr := text_run hdst' hrun s0 f0 hn
    have wf : ∀ i, i ≤ ops'.size → ∀ b, (HH i).blk b ≠ none → b < (HH i).next := fun i hi => let ⟨_, _, _, s, _⟩ := tr i hi; s.wf
    have nx : ∀ i, i ≤ ops'.size → (HH 0).next ≤ (HH i).next := fun i hi => let ⟨_, _, _, _, _, _, h⟩ := tr i hi; h
    have scF : ∀ i t, i ≤ ops'.size → Sc (HH i).next (F i t) := fun i t hi => let ⟨φ, w, a, _, f, _⟩ := tr i hi; ⟨φ, HH i, _, Nat.le_refl _, f t⟩
    have notIn : ∀ n j, ¬ isIn (Array.replicate n false) j := fun n j h => by
      simp only [isIn, Array.getD_eq_getD_getElem?, Array.getElem?_replicate] at h
      split at h <;> simp at h
    have s1 := s0.drawn (w.drawn + 1)
    obtain ⟨q, I⟩ := seg_start (nt := nt) (P := P) (a := a) (φ0 := φ) (w0 := w) (L := isIn (Array.replicate ops.size false)) hrun wf (Nat.zero_le _) (fun i o _ _ h => by omega) (fun i o _ _ _ => notIn _ i) s1
      (fun b hb1 hb2 => by omega) (let x := Ext.refl s1; ⟨s1.big, x.next, x.back, x.agree, x.fresh, x.frame, x.size, x.os, x.tape, x.output⟩) (fun t i hi hv => by
        have := same_slot hrun t i 0 (by omega) (fun j o ho _ hj => by
          cases hw : writesT o t with
          | false => rfl
          | true => exact absurd (hv.1 j o ho (by omega) hw) (notIn _ j))
        rw [Nat.zero_add] at this
        rw [this]
        exact f0 t)
    have := (game_lit W q2 hdst' hrun wf nx scF (fun j o ho hl i oi hji hi hE hw => h6 j o (Nat.zero_le _) ho hl i oi hji hi hE hw) (fun j o ho hl i oi hij hi hE hb => h8 j o (Nat.zero_le _) ho hl i oi (Nat.zero_le _) hij hi hE hb)
      q1 had g4.symm g5.symm (fill_kept pa _ _ (fun v hv => .inl (List.all_eq_true.1 (reps_plain g1) v hv)) (fun p hp => by
        obtain ⟨x, hx, e⟩ := g2 p hp
        rw [e]
        exact hflat x hx) g3) (fun b hb hl => text_alive hdst' hrun s0 f0 hn nx hb hl) g6 c1 c3 c4 hF ops.size).1 (Array.replicate ops.size false) a _ 0 q φ (by simp [left]) (by simp) (fun j o hj => absurd hj (notIn _ j)) hn hdf I
    rw [h2] at this
    exact this

end Go.Ab

/-! Bodies and functions. -/
namespace Go.Ab

/-- The values of some slots, one behind the other. -/
def St : List Nat → Type
  | [] => Unit
  | _ :: L => Value × St L

def gather : (L : List Nat) → Frm → St L
  | [], _ => ()
  | t :: L, fr => (fr t, gather L fr)

/-- Slots that a body may write. -/
def inDsts : Code → Nat → Bool
  | .region _ ops _, t => opsDst ops.toList t
  | .seq a b, t => inDsts a t || inDsts b t
  | .cond _ a b, t => inDsts a t || inDsts b t
  | .block _ c, t => inDsts c t
  | .loop c, t => inDsts c t
  | .skip, _ | .exit _, _ | .label _, _ | .ret, _ => false
  | _, _ => true

/-- Values laid over a frame. -/
def over : (L : List Nat) → St L → Frm → Frm
  | [], _, fr => fr
  | t :: L, s, fr => fun i => match Nat.beq i t with | true => s.1 | false => over L s.2 fr i

/-- The frame at a loop's head: its own slots by the state, what the round writes besides is not known, all else as it was. -/
def headFrm (c : Code) (L : List Nat) (fr : Frm) (s : St L) : Frm := over L s fun i => match inDsts c i with | true => junk | false => fr i

/-- The least that holds of a loop. -/
def W.loop {S : Type} (F : (S → Heap → Prop) → S → Heap → Prop) (s : S) (H : Heap) : Prop :=
  ∀ I : S → Heap → Prop, (∀ (J : S → Heap → Prop) (s : S) (H : Heap), (∀ s H, J s H → I s H) → F J s H → I s H) → I s H

/-- A loop that goes down by a measure. -/
theorem W.loop_rule {S : Type} {F : (S → Heap → Prop) → S → Heap → Prop} (Inv : S → Heap → Prop) (μ : S → Heap → Nat) {s : S} {H : Heap} (h0 : Inv s H)
    (step : ∀ s H, Inv s H → F (fun s' H' => Inv s' H' ∧ μ s' H' < μ s H) s H) : W.loop F s H := by
  intro I hI
  have key : ∀ n s H, μ s H = n → Inv s H → I s H := by
    intro n
    induction n using Nat.strongRecOn with
    | _ n ih =>
      intro s H hn hi
      exact hI _ s H (fun s' H' ⟨h1, h2⟩ => ih (μ s' H') (hn ▸ h2) s' H' rfl h1) (step s H hi)
  exact key _ s H rfl h0

def W.cond (v : Value) (H : Heap) (A B : Heap → Prop) : Prop := match v with | .bool true => A H | .bool false => B H | _ => False

/-- The number of the first region of a body: a loop's name. -/
def firstRegion : Code → Option Nat
  | .region id _ _ => some id
  | .seq a b => match firstRegion a with | some i => some i | none => firstRegion b
  | .block _ c => firstRegion c
  | .loop c => firstRegion c
  | .cond _ a b => match firstRegion a with | some i => some i | none => firstRegion b
  | _ => none

/-- The slots that live at a loop's head: by the number of the loop's first region. A region's number and a million: its calls may write what was. -/
abbrev Ann := List (Nat × List Nat)

/-- The number of the last region of a body. -/
def lastRegion : Code → Option Nat
  | .region id _ _ => some id
  | .seq a b => match lastRegion b with | some i => some i | none => lastRegion a
  | .block _ c => lastRegion c
  | .loop c => lastRegion c
  | .cond _ a b => match lastRegion b with | some i => some i | none => lastRegion a
  | _ => none

/-- By the first region's number; where two loops begin with the same region, by the last one's too. -/
def Ann.of (ann : Ann) (c : Code) : List Nat :=
  match firstRegion c with
  | some i => match ann.find? (fun p => Nat.beq p.1 i) with
    | some p => p.2
    | none => match lastRegion c with
      | some j => match ann.find? (fun p => Nat.beq p.1 (10000000 + i * 1000 + j)) with | some p => p.2 | none => []
      | none => []
  | none => []

def Ann.wr (ann : Ann) (id : Nat) : Bool := ann.any fun p => Nat.beq p.1 (id + 1000000)

abbrev Cont := Exit → Frm → Heap → Prop

def den (P : Program) (ann : Ann) : Code → Cont → Frm → Heap → Prop
  | .skip, K, fr, H => K .normal fr H
  | .region id ops draw, K, fr, H =>
    match draw with
    | false => denOps P ops.toList ops.toList (fun fr H => K .normal fr H) fr H
    | true => match ann.wr id with
    | true => (match drawOkF P true ops.toList with
      | true => denOpsF true P ops.toList (masks ops.toList) ops.toList 0 [] [] (fun fr H => K .normal fr H) fr H
      | false => False)
    | false => match drawLast P ops.toList with
      | true => denOpsL P ops.toList (fun fr H => K .normal fr H) fr H
      | false => match drawOk P false ops.toList with
      | true => denOpsQ false P ops.toList ops.toList (fun fr H => K .normal fr H) fr H
      | false => match drawOkF P false ops.toList with 
        | true => denOpsF false P ops.toList (masks ops.toList) ops.toList 0 [] [] (fun fr H => K .normal fr H) fr H
        | false => match drawAl P ops.toList with
          | true => denOpsA P ops.toList (fun fr H => K .normal fr H) fr H
          | false => match drawLit P ops.toList with
            | true => denOpsB P ops.toList (fun fr H => K .normal fr H) fr H
            | false => False
  | .seq a b, K, fr, H => den P ann a (fun e fr H => match e with | .normal => den P ann b K fr H | e => K e fr H) fr H
  | .cond c a b, K, fr, H => W.cond (aev fr c) H (fun H => den P ann a K fr H) (fun H => den P ann b K fr H)
  | .block id c, K, fr, H => den P ann c (fun e fr H => match e with | .exit j => (match Nat.beq j id with | true => K .normal fr H | false => K (.exit j) fr H) | e => K e fr H) fr H
  | .loop c, K, fr, H =>
    match (ann.of c).all (inDsts c) with
    | true => W.loop (fun I s H => den P ann c (fun e fr H => match e with | .normal => I (gather (ann.of c) fr) H | e => K e fr H) (headFrm c (ann.of c) fr s) H) (gather (ann.of c) fr) H
    | false => False
  | .exit id, K, fr, H => K (.exit id) fr H
  | .label _, K, fr, H => K .normal fr H
  | .ret, K, fr, H => K .ret fr H
  | _, _, _, _ => False

/-- All regions' destinations lie in the frame. -/
def codeOk (n : Nat) : Code → Bool
  | .region _ ops _ => dstsOk n ops.toList
  | .seq a b => codeOk n a && codeOk n b
  | .cond _ a b => codeOk n a && codeOk n b
  | .block _ c => codeOk n c
  | .loop c => codeOk n c
  | _ => true

theorem over_gather {φ : Phi} {H : Heap} {fr fr' : Frm} {tmps : Array Value} (f : FR φ H fr' tmps) (L : List Nat) (g : FR φ H fr tmps) : FR φ H (over L (gather L fr') fr) tmps := by
  induction L with
  | nil => exact g
  | cons i L ih =>
    intro t
    simp only [over, gather]
    split
    · rename_i hb
      have := Nat.eq_of_beq_eq_true hb
      subst this
      exact f t
    · exact ih t

theorem head_FR {φ : Phi} {H : Heap} {c : Code} {fr fr' : Frm} {tmps : Array Value} (f : FR φ H fr' tmps) (h : ∀ t, inDsts c t = false → fr' t = fr t) (L : List Nat) :
    FR φ H (headFrm c L fr (gather L fr')) tmps :=
  over_gather f L fun t => by
    split
    · exact .junk _
    · rename_i hb
      rw [← h t hb]
      exact f t

theorem over_of_not (L : List Nat) (s : St L) (fr : Frm) (t : Nat) (h : L.all (fun i => !Nat.beq t i) = true) : over L s fr t = fr t := by
  induction L with
  | nil => rfl
  | cons i L ih =>
    simp only [List.all_cons, Bool.and_eq_true, Bool.not_eq_true'] at h
    simp only [over, h.1]
    exact ih s.2 h.2

/-- The post of a step. -/
def SPost (n : Nat) (φ : Phi) (H : Heap) (w : World) (e : Exit) (fr' : Frm) (H' : Heap) : Exit → Act → World → Prop :=
  fun e' a' w' => e' = e ∧ a'.defers = [] ∧ a'.tmps.size = n ∧ ∃ φ', Ext φ H w φ' H' w' ∧ FR φ' H' fr' a'.tmps

theorem SPost.trans {n : Nat} {φ : Phi} {H : Heap} {w : World} {φ1 : Phi} {H1 : Heap} {w1 : World} {e e' : Exit} {fr' : Frm} {H' : Heap} {a' : Act} {w' : World}
    (x : Ext φ H w φ1 H1 w1) (h : SPost n φ1 H1 w1 e fr' H' e' a' w') : SPost n φ H w e fr' H' e' a' w' := by
  obtain ⟨h1, h2, h3, φ', x2, f⟩ := h
  exact ⟨h1, h2, h3, φ', x.trans x2, f⟩

theorem den_sound {P : Program} {ann : Ann} {n : Nat} (hm : P.follows .mixedOrders = true) : ∀ (c : Code) (K : Cont) (fr : Frm) (H : Heap), codeOk n c = true → den P ann c K fr H →
    ∃ e fr' H', K e fr' H' ∧ (∀ t, inDsts c t = false → fr' t = fr t) ∧ CStep P c n fr H e fr' H'
  | .skip, K, fr, H, _, h => ⟨_, _, _, h, fun _ _ => rfl, fun φ w a s f hn hd => wp_skip ⟨rfl, hd, hn, φ, .refl s, f⟩⟩
  | .label l, K, fr, H, _, h => ⟨_, _, _, h, fun _ _ => rfl, fun φ w a s f hn hd => wp_label ⟨rfl, hd, hn, φ, .refl s, f⟩⟩
  | .exit id, K, fr, H, _, h => ⟨_, _, _, h, fun _ _ => rfl, fun φ w a s f hn hd => wp_exit ⟨rfl, hd, hn, φ, .refl s, f⟩⟩
  | .ret, K, fr, H, _, h => ⟨_, _, _, h, fun _ _ => rfl, fun φ w a s f hn hd => wp_ret ⟨rfl, hd, hn, φ, .refl s, f⟩⟩
  | .region id ops draw, K, fr, H, hc, h => by
    simp only [den] at h
    simp only [codeOk] at hc
    split at h
    · obtain ⟨fr', H', hK, ha, hr⟩ := denOps_sound n _ _ _ h hc
      exact ⟨.normal, fr', H', hK, ha, fun φ w a s f hn hd => wp_region_list (hr φ w a s f hn hd)⟩
    · split at h
      · split at h
        · rename_i hd
          obtain ⟨fr', H', hK, ha, hr⟩ := denOpsF_sound (ce := true) (id := id) n hm hd hc h
          exact ⟨.normal, fr', H', hK, ha, hr⟩
        · exact h.elim
      · split at h
        · rename_i hd
          obtain ⟨fr', H', hK, ha, hr⟩ := denOpsL_sound (id := id) n hm hd hc h
          exact ⟨.normal, fr', H', hK, ha, hr⟩
        · split at h
          · rename_i hd
            obtain ⟨fr', H', hK, ha, hr⟩ := denOpsQ_sound (id := id) n hm hd hc h
            exact ⟨.normal, fr', H', hK, ha, hr⟩
          · split at h
            · rename_i hd
              obtain ⟨fr', H', hK, ha, hr⟩ := denOpsF_sound (id := id) n hm hd hc h
              exact ⟨.normal, fr', H', hK, ha, hr⟩
            · split at h
              · rename_i hd
                obtain ⟨fr', H', hK, ha, hr⟩ := denOpsA_sound (id := id) n hm hd hc h
                exact ⟨.normal, fr', H', hK, ha, hr⟩
              · split at h
                · rename_i hd
                  obtain ⟨fr', H', hK, ha, hr⟩ := denOpsB_sound (id := id) n hm hd hc h
                  exact ⟨.normal, fr', H', hK, ha, hr⟩
                · exact h.elim
  | .seq x y, K, fr, H, hc, h => by
    simp only [den] at h
    simp only [codeOk, Bool.and_eq_true] at hc
    obtain ⟨e, fr1, H1, hK, hax, hx⟩ := den_sound hm x _ fr H hc.1 h
    have hax' : ∀ t, inDsts (.seq x y) t = false → fr1 t = fr t := fun t ht => by
      simp only [inDsts, Bool.or_eq_false_iff] at ht
      exact hax t ht.1
    cases e with
    | normal =>
      obtain ⟨e2, fr2, H2, hK2, hay, hy⟩ := den_sound hm y K fr1 H1 hc.2 hK
      refine ⟨e2, fr2, H2, hK2, fun t ht => ?_, fun φ w a s f hn hd => wp_seq ?_⟩
      · have ht' := ht
        simp only [inDsts, Bool.or_eq_false_iff] at ht'
        rw [hay t ht'.2, hax' t ht]
      · refine wp_mono (hx φ w a s f hn hd) ?_
        rintro e' a' w' ⟨rfl, hd', hn', φ', x', f'⟩
        exact wp_mono (hy φ' w' a' x'.sim f' hn' hd') fun e'' a'' w'' q => SPost.trans x' q
    | exit j => exact ⟨_, fr1, H1, hK, hax', fun φ w a s f hn hd => wp_seq (wp_mono (hx φ w a s f hn hd) (by rintro e' a' w' ⟨rfl, q⟩; exact ⟨rfl, q⟩))⟩
    | goto j => exact ⟨_, fr1, H1, hK, hax', fun φ w a s f hn hd => wp_seq (wp_mono (hx φ w a s f hn hd) (by rintro e' a' w' ⟨rfl, q⟩; exact ⟨rfl, q⟩))⟩
    | ret => exact ⟨_, fr1, H1, hK, hax', fun φ w a s f hn hd => wp_seq (wp_mono (hx φ w a s f hn hd) (by rintro e' a' w' ⟨rfl, q⟩; exact ⟨rfl, q⟩))⟩
    | panic ch => exact ⟨_, fr1, H1, hK, hax', fun φ w a s f hn hd => wp_seq (wp_mono (hx φ w a s f hn hd) (by rintro e' a' w' ⟨rfl, q⟩; exact ⟨rfl, q⟩))⟩
    | outgrown => exact ⟨_, fr1, H1, hK, hax', fun φ w a s f hn hd => wp_seq (wp_mono (hx φ w a s f hn hd) (by rintro e' a' w' ⟨rfl, q⟩; exact ⟨rfl, q⟩))⟩
  | .cond c x y, K, fr, H, hc, h => by
    simp only [den] at h
    simp only [codeOk, Bool.and_eq_true] at hc
    unfold W.cond at h
    split at h
    · rename_i hb
      obtain ⟨e, fr1, H1, hK, ha, hx⟩ := den_sound hm x K fr H hc.1 h
      refine ⟨e, fr1, H1, hK, fun t ht => ha t (by simp only [inDsts, Bool.or_eq_false_iff] at ht; exact ht.1), fun φ w a s f hn hd => wp_cond_true ?_ (hx φ w a s f hn hd)⟩
      have := f.eval c
      rw [hb] at this
      exact this.of_bool
    · rename_i hb
      obtain ⟨e, fr1, H1, hK, ha, hx⟩ := den_sound hm y K fr H hc.2 h
      refine ⟨e, fr1, H1, hK, fun t ht => ha t (by simp only [inDsts, Bool.or_eq_false_iff] at ht; exact ht.2), fun φ w a s f hn hd => wp_cond_false ?_ (hx φ w a s f hn hd)⟩
      have := f.eval c
      rw [hb] at this
      exact this.of_bool
    · exact h.elim
  | .block id c, K, fr, H, hc, h => by
    simp only [den] at h
    simp only [codeOk] at hc
    obtain ⟨e, fr1, H1, hK, ha, hx⟩ := den_sound hm c _ fr H hc h
    have ha' : ∀ t, inDsts (.block id c) t = false → fr1 t = fr t := ha
    cases e with
    | exit j =>
      simp only at hK
      split at hK
      · rename_i hb
        have := Nat.eq_of_beq_eq_true hb
        subst this
        refine ⟨.normal, fr1, H1, hK, ha', fun φ w a s f hn hd => wp_block (wp_mono (hx φ w a s f hn hd) ?_)⟩
        rintro e' a' w' ⟨rfl, q⟩
        simp only [Exit.inBlock, if_true]
        exact ⟨trivial, q⟩
      · rename_i hb
        refine ⟨.exit j, fr1, H1, hK, ha', fun φ w a s f hn hd => wp_block (wp_mono (hx φ w a s f hn hd) ?_)⟩
        rintro e' a' w' ⟨rfl, q⟩
        have hne : ¬ j = id := fun e => by subst e; rw [Nat.beq_refl] at hb; cases hb
        simp only [Exit.inBlock, if_neg hne]
        exact ⟨trivial, q⟩
    | normal => exact ⟨_, fr1, H1, hK, ha', fun φ w a s f hn hd => wp_block (wp_mono (hx φ w a s f hn hd) (by rintro e' a' w' ⟨rfl, q⟩; exact ⟨rfl, q⟩))⟩
    | goto j => exact ⟨_, fr1, H1, hK, ha', fun φ w a s f hn hd => wp_block (wp_mono (hx φ w a s f hn hd) (by rintro e' a' w' ⟨rfl, q⟩; exact ⟨rfl, q⟩))⟩
    | ret => exact ⟨_, fr1, H1, hK, ha', fun φ w a s f hn hd => wp_block (wp_mono (hx φ w a s f hn hd) (by rintro e' a' w' ⟨rfl, q⟩; exact ⟨rfl, q⟩))⟩
    | panic ch => exact ⟨_, fr1, H1, hK, ha', fun φ w a s f hn hd => wp_block (wp_mono (hx φ w a s f hn hd) (by rintro e' a' w' ⟨rfl, q⟩; exact ⟨rfl, q⟩))⟩
    | outgrown => exact ⟨_, fr1, H1, hK, ha', fun φ w a s f hn hd => wp_block (wp_mono (hx φ w a s f hn hd) (by rintro e' a' w' ⟨rfl, q⟩; exact ⟨rfl, q⟩))⟩
  | .loop c, K, fr, H, hc, h => by
    simp only [den] at h
    simp only [codeOk] at hc
    split at h
    case h_2 => exact h.elim
    rename_i hL
    have hnot : ∀ t, inDsts c t = false → (ann.of c).all (fun i => !Nat.beq t i) = true := fun t ht => by
      rw [List.all_eq_true]
      intro i hi
      cases hb : Nat.beq t i with
      | false => rfl
      | true =>
        have := Nat.eq_of_beq_eq_true hb
        subst this
        have := List.all_eq_true.1 hL _ hi
        rw [ht] at this
        cases this
    have hhead : ∀ (s : St (ann.of c)) (t : Nat), inDsts c t = false → headFrm c (ann.of c) fr s t = fr t := fun s t ht => by
      unfold headFrm
      rw [over_of_not _ _ _ _ (hnot t ht), ht]
    -- what a loop that stands before us comes to, in a frame of this shape
    let I : St (ann.of c) → Heap → Prop := fun s H => ∃ e fr' H', K e fr' H' ∧ (∀ t, inDsts c t = false → fr' t = fr t) ∧
      ∀ (φ : Phi) (w : World) (a : Act), Sim φ H w → FR φ H (headFrm c (ann.of c) fr s) a.tmps → a.tmps.size = n → a.defers = [] →
      ∀ (b : Frame) (k : List Item) (cs : List Frame), ∃ a' w', SPost n φ H w e fr' H' e a' w' ∧ Arrives P (lone (b.at a (.code c :: .inLoop c :: k)) cs w) b k cs e a' w'
    have hI : I (gather (ann.of c) fr) H := h I (by
      intro J s H hJ hF
      obtain ⟨e, fr1, H1, hK, ha, hx⟩ := den_sound hm c _ _ H hc hF
      have ha1 : ∀ t, inDsts c t = false → fr1 t = fr t := fun t ht => by rw [ha t ht, hhead s t ht]
      cases e with
      | normal =>
        obtain ⟨e2, fr2, H2, hK2, ha2, hy⟩ := hJ _ _ hK
        refine ⟨e2, fr2, H2, hK2, ha2, fun φ w a s0 f hn hd b k cs => ?_⟩
        obtain ⟨e', a', w', ⟨rfl, hd', hn', φ', x', f'⟩, harr⟩ := hx φ w a s0 f hn hd b (.inLoop c :: k) cs
        obtain ⟨a2, w2, q, harr2⟩ := hy φ' w' a' x'.sim (head_FR f' ha1 _) hn' hd' b k cs
        exact ⟨a2, w2, q.trans x', .of_steps (Steps.trans harr (.one step_inLoop)) harr2⟩
      | exit j =>
        refine ⟨_, fr1, H1, hK, ha1, fun φ w a s0 f hn hd b k cs => ?_⟩
        obtain ⟨e', a', w', ⟨rfl, q⟩, harr⟩ := hx φ w a s0 f hn hd b (.inLoop c :: k) cs
        exact ⟨a', w', ⟨rfl, q⟩, .pass (x := .inLoop c) rfl (fun _ _ => .inl (by simp)) harr⟩
      | goto j =>
        refine ⟨_, fr1, H1, hK, ha1, fun φ w a s0 f hn hd b k cs => ?_⟩
        obtain ⟨e', a', w', ⟨rfl, q⟩, harr⟩ := hx φ w a s0 f hn hd b (.inLoop c :: k) cs
        exact ⟨a', w', ⟨rfl, q⟩, .pass (x := .inLoop c) rfl (fun _ _ => .inl (by simp)) harr⟩
      | ret =>
        refine ⟨_, fr1, H1, hK, ha1, fun φ w a s0 f hn hd b k cs => ?_⟩
        obtain ⟨e', a', w', ⟨rfl, q⟩, harr⟩ := hx φ w a s0 f hn hd b (.inLoop c :: k) cs
        exact ⟨a', w', ⟨rfl, q⟩, .pass (x := .inLoop c) rfl (fun _ _ => .inl (by simp)) harr⟩
      | panic ch =>
        refine ⟨_, fr1, H1, hK, ha1, fun φ w a s0 f hn hd b k cs => ?_⟩
        obtain ⟨e', a', w', ⟨rfl, q⟩, harr⟩ := hx φ w a s0 f hn hd b (.inLoop c :: k) cs
        exact ⟨a', w', ⟨rfl, q⟩, .pass (x := .inLoop c) rfl (fun _ _ => .inl (by simp)) harr⟩
      | outgrown =>
        refine ⟨_, fr1, H1, hK, ha1, fun φ w a s0 f hn hd b k cs => ?_⟩
        obtain ⟨e', a', w', ⟨rfl, q⟩, harr⟩ := hx φ w a s0 f hn hd b (.inLoop c :: k) cs
        exact ⟨a', w', ⟨rfl, q⟩, .pass (x := .inLoop c) rfl (fun _ _ => .inl (by simp)) harr⟩)
    obtain ⟨e, fr', H', hK, ha, hr⟩ := hI
    refine ⟨e, fr', H', hK, ha, fun φ w a s f hn hd b k cs => ?_⟩
    obtain ⟨a', w', q, harr⟩ := hr φ w a s (head_FR f (fun _ _ => rfl) _) hn hd b k cs
    exact ⟨e, a', w', q, .of_steps (.one step_loop) harr⟩
  | .rangeFunc _ _ _ _, _, _, _, _, h => h.elim
  | .scope _, _, _, _, _, h => h.elim
  | .goto _, _, _, _, _, h => h.elim
  | .refuse _, _, _, _, _, h => h.elim

/-! ### Functions -/

/-- One result alone, or all together. -/
def fin (l : List Value) : Value := match l with | [v] => v | l => .tuple l.toArray

def resOf (tmps : Array Value) (r : ResultVar) : Sem Value :=
  match r with
  | .tmp t => pure (tmps.getD t undef)
  | .cell a t => do loadVar t (← asAddr (tmps.getD a undef))

def denRes (P : Program) : List ResultVar → List Value → Frm → Heap → Post → Prop
  | [], acc, _, H, Q => Q (fin acc) H
  | .tmp t :: rs, acc, fr, H, Q => denRes P rs (acc ++ [fr t]) fr H Q
  | .cell a t :: rs, acc, fr, H, Q =>
    match isAggT P t, P.info? t with
    | some false, _ => W.get (fr a) H (fun v H => denRes P rs (acc ++ [v]) fr H Q)
    | some true, some i => W.getN i.size (fr a) H (fun v H => denRes P rs (acc ++ [v]) fr H Q)
    | _, _ => False

def startFrm (args : List Value) : Frm := fun i => args.getD i undef

def denFn (P : Program) (ann : Ann) (fn : Func) (c : Code) (args : List Value) (H : Heap) (Q : Post) : Prop :=
  den P ann c (fun e fr H => match e with | .normal => denRes P fn.results.toList [] fr H Q | .ret => denRes P fn.results.toList [] fr H Q | _ => False) (startFrm args) H

theorem denRes_sound {P : Program} {Q : Post} : ∀ (rs : List ResultVar) (acc : List Value) (fr : Frm) (H : Heap), denRes P rs acc fr H Q →
    ∃ (vs : List Value), Q (fin (acc ++ vs)) H ∧ ∀ (φ : Phi) (w : World) (tmps : Array Value), Sim φ H w → FR φ H fr tmps →
      ∃ cvs : List Value, (rs.mapM (resOf tmps)).run P w = .ok cvs w ∧ LR φ H vs cvs
  | [], acc, fr, H, h => ⟨[], by simpa [denRes] using h, fun φ w tmps s f => ⟨[], by simp, .nil⟩⟩
  | .tmp t :: rs, acc, fr, H, h => by
    simp only [denRes] at h
    obtain ⟨vs, hq, hr⟩ := denRes_sound rs _ fr H h
    refine ⟨fr t :: vs, by simpa using hq, fun φ w tmps s f => ?_⟩
    obtain ⟨cvs, h1, h2⟩ := hr φ w tmps s f
    refine ⟨tmps.getD t undef :: cvs, ?_, ?_⟩
    · rw [List.mapM_cons]
      simp only [resOf, Sem.run_bind, Sem.run_pure, Result.andThen_ok, h1]
    · exact (LR.one (f t)).append h2
  | .cell a t :: rs, acc, fr, H, h => by
    simp only [denRes] at h
    split at h
    · rename_i ht
      unfold W.get at h
      split at h
      · rename_i p hp
        split at h
        · rename_i v hv
          obtain ⟨vs, hq, hr⟩ := denRes_sound rs _ fr H h
          refine ⟨v :: vs, by simpa using hq, fun φ w tmps s f => ?_⟩
          obtain ⟨cvs, h1, h2⟩ := hr φ w tmps s f
          have fa := f a
          rw [hp] at fa
          obtain ⟨p', hp', har⟩ := fa.of_ptr
          obtain ⟨v', g1, g2⟩ := s.get har hv
          refine ⟨v' :: cvs, ?_, (LR.one g2).append h2⟩
          have e : (resOf tmps (.cell a t)).run P w = .ok v' w := by
            simp [resOf, hp', asAddr, loadVar, isAgg_run ht, g1]
          rw [List.mapM_cons]
          simp only [Sem.run_bind, Sem.run_pure, Result.andThen_ok, e, h1]
        · exact h.elim
      · exact h.elim
    · rename_i i ht hi
      unfold W.getN at h
      split at h
      · rename_i p hp
        split at h
        · rename_i us hv
          obtain ⟨vs, hq, hr⟩ := denRes_sound rs _ fr H h
          refine ⟨.agg us.toArray :: vs, by simpa using hq, fun φ w tmps s f => ?_⟩
          obtain ⟨cvs, h1, h2⟩ := hr φ w tmps s f
          have fa := f a
          rw [hp] at fa
          obtain ⟨p', hp', har⟩ := fa.of_ptr
          obtain ⟨us', g1, g2, g3, g4⟩ := s.getN har hv
          have hl := run_loadCells_list (P := P) w p' us' g3
          rw [g1] at hl
          refine ⟨.agg us'.toArray :: cvs, ?_, (LR.one (LR.agg ⟨by omega, g4⟩)).append h2⟩
          have e : (resOf tmps (.cell a t)).run P w = .ok (.agg us'.toArray) w := by
            simp [resOf, hp', asAddr, loadVar, isAgg_run ht, sizeOf_run hi, hl]
          rw [List.mapM_cons]
          simp only [Sem.run_bind, Sem.run_pure, Result.andThen_ok, e, h1]
        · exact h.elim
      · exact h.elim
    · exact h.elim

theorem fn_sound {P : Program} {ann : Ann} {f : FuncId} {fn : Func} {c : Code} {args : Array Value} {H : Heap} {Q : Post} (hm : P.follows .mixedOrders = true) (hf : P.funcs[f]? = some fn) (hb : fn.body = some c)
    (hname : (fn.name == "runtime.NumGoroutine") = false) (hok : codeOk fn.ntmps c = true) (hargs : Nat.ble args.size fn.ntmps = true)
    (h : denFn P ann fn c args.toList H Q) : Runs P f args H Q := by
  refine ⟨⟨fn, hf, by rw [hb]; rfl, hname⟩, ?_⟩
  obtain ⟨e, fr', H', hK, -, hs⟩ := den_sound hm c _ _ H hok h
  have hres : (e = .normal ∨ e = .ret) ∧ denRes P fn.results.toList [] fr' H' Q := by
    cases e <;> first | exact ⟨.inl rfl, hK⟩ | exact ⟨.inr rfl, hK⟩ | exact hK.elim
  obtain ⟨vs, hq, hr⟩ := denRes_sound _ _ _ _ hres.2
  refine ⟨fin vs, H', fun φ w cargs s ra => calls_of_wp hf hb ?_, by simpa using hq⟩
  have hle := Nat.le_of_ble_eq_true hargs
  have hsz : (cargs ++ Array.replicate (fn.ntmps - cargs.size) undef).size = fn.ntmps := by
    have := ra.1
    simp
    omega
  have hf0 : FR φ H (startFrm args.toList) (cargs ++ Array.replicate (fn.ntmps - cargs.size) undef) := by
    intro t
    simp only [startFrm, Array.getD_eq_getD_getElem?, List.getD_eq_getElem?_getD, Array.getElem?_toList]
    by_cases ht : t < args.size
    · have ht' : t < cargs.size := by have := ra.1; omega
      rw [Array.getElem?_append_left ht']
      simp only [ht, ht', Array.getElem?_eq_getElem, Option.getD_some]
      exact ra.2 t ht ht'
    · have ht' : ¬ t < cargs.size := by have := ra.1; omega
      rw [Array.getElem?_append_right (by omega), Array.getElem?_replicate]
      have : args[t]? = none := by simp; omega
      rw [this]
      split <;> exact undef_VR
  refine wp_mono (hs φ w _ s hf0 hsz rfl) ?_
  rintro e' a' w' ⟨rfl, hd, hn, φ', x, f'⟩
  obtain ⟨cvs, h1, h2⟩ := hr φ' w' a'.tmps x.sim f'
  have hrun : (results fn a'.tmps).run P w' = .ok (fin cvs) w' := by
    have e1 : results fn a'.tmps = (do let vs ← fn.results.mapM (resOf a'.tmps); pure (if h : vs.size = 1 then vs[0] else .tuple vs)) := rfl
    rw [e1, Array.mapM_eq_mapM_toList]
    simp only [Sem.run_bind, Sem.run_map, h1, Result.andThen_ok, Sem.run_pure]
    congr 1
    cases cvs with
    | nil => simp [fin]
    | cons v l => cases l with
      | nil => simp [fin]
      | cons u l => simp [fin]
  have hpost : a'.defers = [] ∧ ∃ v, (results fn a'.tmps).run P w' = .ok v w' ∧ ∃ φ' cv, Ending.returned v = .returned cv ∧ Ext φ H w φ' H' w' ∧ VR φ' H' (fin vs) cv := by
    refine ⟨hd, _, hrun, φ', _, rfl, x, ?_⟩
    obtain ⟨hl, hv⟩ := h2
    cases vs with
    | nil => cases cvs with
      | nil => exact undef_VR
      | cons => simp at hl
    | cons v l => cases cvs with
      | nil => simp at hl
      | cons u m =>
        cases l with
        | nil => cases m with
          | nil => exact hv 0 v u rfl rfl
          | cons => simp at hl
        | cons v2 l => cases m with
          | nil => simp at hl
          | cons u2 m => exact .tuple _ _ (by simpa using hl) (fun i g1 g2 => hv i _ _ (by simp) (by simp))
  rcases hres.1 with rfl | rfl <;> exact hpost

/-- A function by its text. -/
theorem fn_enter {P : Program} {ann : Ann} {f : FuncId} {fn : Func} {c : Code} {args : Array Value} {H : Heap} {Q : Post} {T : Prop} (hm : P.follows .mixedOrders = true) (hf : P.funcs[f]? = some fn) (hb : fn.body = some c)
    (hok : (!(fn.name == "runtime.NumGoroutine") && codeOk fn.ntmps c && Nat.ble args.size fn.ntmps) = true) (h : T) (he : T = denFn P ann fn c args.toList H Q) : Runs P f args H Q := by
  simp only [Bool.and_eq_true, Bool.not_eq_true'] at hok
  exact fn_sound hm hf hb hok.1.1 hok.1.2 hok.2 (he ▸ h)

end Go.Ab
