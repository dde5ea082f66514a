/- What the operations of the model do on the abstract heap: one word each, and the proof that the model's own operation does the same. -/
import Derived.Test.YtdbdmlfnggbdiaaZabHeap
namespace Go.Ab

abbrev Post := Value → Heap → Prop

/-- An operation: from any world that fits the heap it comes to a world that fits the next one. -/
def OpStep (P : Program) (o : Oper) (ev : Operand → Value) (H : Heap) (v : Value) (H' : Heap) : Prop :=
  ∀ (φ : Phi) (w : World) (a : Act) (next : Act → World → Prop) (Q : Exit → Act → World → Prop), Sim φ H w →
    (∀ x, x ∈ o.op.operands.toList → VR φ H (ev x) (a.eval x)) →
    (∀ φ' w' cv, Ext φ H w φ' H' w' → VR φ' H' v cv → next (a.put o.dst cv) w') → o.wp P a w next Q

theorem OpStep.value {P : Program} {o : Oper} {ev : Operand → Value} {H : Heap} {v : Value} {H' : Heap}
    (h : ∀ (φ : Phi) (w : World) (cev : Operand → Value), Sim φ H w → (∀ x, x ∈ o.op.operands.toList → VR φ H (ev x) (cev x)) →
      ∃ cv w' φ', (execOp cev o).run P w = .ok (.value cv) w' ∧ Ext φ H w φ' H' w' ∧ VR φ' H' v cv) : OpStep P o ev H v H' := by
  intro φ w a next Q s hx hn
  obtain ⟨cv, w', φ', hr, x, r⟩ := h φ w a.eval s hx
  unfold Oper.wp
  rw [hr, Oper.upon_value]
  exact hn φ' w' cv x r

theorem OpStep.pure {P : Program} {o : Oper} {ev : Operand → Value} {H : Heap} {v : Value}
    (h : ∀ (φ : Phi) (w : World) (cev : Operand → Value), Sim φ H w → (∀ x, x ∈ o.op.operands.toList → VR φ H (ev x) (cev x)) →
      ∃ cv, (execOp cev o).run P w = .ok (.value cv) w ∧ VR φ H v cv) : OpStep P o ev H v H :=
  .value fun φ w cev s hx => by
    obtain ⟨cv, hr, r⟩ := h φ w cev s hx
    exact ⟨cv, w, φ, hr, .refl s, r⟩

/-! ### Values that stand for a known one -/

theorem VR.of_bool {φ H b v} (h : VR φ H (.bool b) v) : v = .bool b := by cases h; rfl
theorem VR.of_int {φ H k n v} (h : VR φ H (.int k n) v) : v = .int k n := by cases h; rfl
theorem VR.of_string {φ H s v} (h : VR φ H (.string s) v) : v = .string s := by cases h; rfl
theorem VR.of_pnil {φ H v} (h : VR φ H (.pointer none) v) : v = .pointer none := by cases h; rfl
theorem VR.of_ptr {φ H a v} (h : VR φ H (.pointer (some a)) v) : ∃ a', v = .pointer (some a') ∧ AR φ H a a' := by cases h with | ptr h => exact ⟨_, rfl, h⟩
theorem VR.of_snil {φ H n e v} (h : VR φ H (.slice none n e) v) : (v = .slice none 0 0 ∧ n = 0 ∧ e = 0) ∨ (∃ a c, v = .slice (some a) 0 c) ∧ n = 0 ∧ e = 1 := by
  cases h with
  | snil => exact .inl ⟨rfl, rfl, rfl⟩
  | emp a c => exact .inr ⟨⟨a, c, rfl⟩, rfl, rfl⟩
theorem VR.of_slice {φ H a n e v} (h : VR φ H (.slice (some a) n e) v) : ∃ a' c, v = .slice (some a') n c ∧ AR φ H a a' ∧ CR e c := by
  cases h with | slice h hc => exact ⟨_, _, rfl, h, hc⟩
theorem VR.of_tuple {φ H xs v} (h : VR φ H (.tuple xs) v) : ∃ ys : Array Value, v = .tuple ys ∧ xs.size = ys.size ∧
    ∀ i (h : i < xs.size) (h' : i < ys.size), VR φ H xs[i] ys[i] := by
  cases h with | tuple _ ys hx rx => exact ⟨ys, rfl, hx, rx⟩
theorem VR.of_agg {φ H xs v} (h : VR φ H (.agg xs) v) : ∃ ys : Array Value, v = .agg ys ∧ xs.size = ys.size ∧
    ∀ i (h : i < xs.size) (h' : i < ys.size), VR φ H xs[i] ys[i] := by
  cases h with | agg _ ys hx rx => exact ⟨ys, rfl, hx, rx⟩
theorem VR.of_func {φ H f xs zs v} (h : VR φ H (.func (.func f) xs zs) v) : ∃ ys us : Array Value, v = .func (.func f) ys us ∧ xs.size = ys.size ∧ zs.size = us.size ∧
    (∀ i (h : i < xs.size) (h' : i < ys.size), VR φ H xs[i] ys[i]) ∧ (∀ i (h : i < zs.size) (h' : i < us.size), VR φ H zs[i] us[i]) := by
  cases h with | func _ _ _ ys us hx hy rx ry => exact ⟨ys, us, rfl, hx, hy, rx, ry⟩

/-! ### Operations on numbers -/

def intEval (op : BinOp) (k : IntKind) (a b : Int) : Option Value :=
  match op with
  | .add => some (.int k (k.wrap (a + b)))
  | .sub => some (.int k (k.wrap (a - b)))
  | .mul => some (.int k (k.wrap (a * b)))
  | .quo => if b = 0 then none else some (.int k (k.wrap (a.tdiv b)))
  | .rem => if b = 0 then none else some (.int k (a.tmod b))
  | .and => some (.int k (k.wrap (BitVec.ofInt k.bits a &&& BitVec.ofInt k.bits b).toNat))
  | .or => some (.int k (k.wrap (BitVec.ofInt k.bits a ||| BitVec.ofInt k.bits b).toNat))
  | .xor => some (.int k (k.wrap (BitVec.ofInt k.bits a ^^^ BitVec.ofInt k.bits b).toNat))
  | .andNot => some (.int k (k.wrap (BitVec.ofInt k.bits a &&& ~~~(BitVec.ofInt k.bits b)).toNat))
  | .eql => some (.bool (a == b))
  | .neq => some (.bool (a != b))
  | .lss => some (.bool (a < b))
  | .leq => some (.bool (a ≤ b))
  | .gtr => some (.bool (a > b))
  | .geq => some (.bool (a ≥ b))
  | .shl | .shr => none

def strEval (op : BinOp) (a b : ByteArray) : Option Value :=
  match op with
  | .add => if a.size + b.size ≤ 1152921504606846976 then some (.string (a ++ b)) else none
  | .eql => some (.bool (a.toList == b.toList))
  | .neq => some (.bool (!(a.toList == b.toList)))
  | _ => none

def binEval (op : BinOp) (x y : Value) : Option Value :=
  match op, x, y with
  | .shl, .int k a, .int _ b => if b < 0 then none else some (.int k (k.wrap (a * 2 ^ (min b.toNat k.bits))))
  | .shr, .int k a, .int _ b => if b < 0 then none else some (.int k (a.fdiv (2 ^ (min b.toNat k.bits))))
  | op, .int k a, .int k' b => if k = k' then intEval op k a b else none
  | op, .string a, .string b => strEval op a b
  | _, _, _ => none

/-- A binary operation on numbers or strings. -/
def W.bin (op : BinOp) (x y : Value) (H : Heap) (k : Post) : Prop :=
  match binEval op x y with | some v => k v H | none => False

theorem intEval_run {P : Program} {w : World} {op : BinOp} {k : IntKind} {a b : Int} {v : Value} (h : intEval op k a b = some v) (t : TypeId) :
    (binOp op t (.int k a) (.int k b)).run P w = .ok v w ∧ ∀ φ H, VR φ H v v := by
  cases op with
  | quo | rem =>
    simp [intEval] at h
    obtain ⟨h0, rfl⟩ := h
    exact ⟨by simp [binOp, Op.intDiv, pure, h0], fun _ _ => .int ..⟩
  | shl | shr => simp [intEval] at h
  | eql | neq | lss | leq | gtr | geq =>
    simp [intEval] at h
    subst h
    exact ⟨by simp [binOp, Op.intCmp, pure], fun _ _ => .bool ..⟩
  | _ =>
    simp [intEval] at h
    subst h
    exact ⟨by simp [binOp, Op.intArith, Op.intBits, pure], fun _ _ => .int ..⟩

theorem strEval_run {P : Program} {w : World} {op : BinOp} {a b : ByteArray} {v : Value} (h : strEval op a b = some v) (t : TypeId) :
    (binOp op t (.string a) (.string b)).run P w = .ok v w ∧ ∀ φ H, VR φ H v v := by
  cases op with
  | add =>
    simp [strEval] at h
    obtain ⟨h0, rfl⟩ := h
    refine ⟨?_, fun _ _ => .string ..⟩
    simp only [binOp, Op.stringOp, pure]
    rw [if_neg (by simp [IntKind.max, IntKind.signed, IntKind.bits]; omega)]
    rfl
  | eql | neq =>
    simp [strEval] at h
    subst h
    exact ⟨by simp [binOp, Op.stringOp, pure], fun _ _ => .bool ..⟩
  | _ => simp [strEval] at h

theorem binEval_run {P : Program} {w : World} {op : BinOp} {t : TypeId} {x y v : Value} (h : binEval op x y = some v) :
    (binOp op t x y).run P w = .ok v w ∧ (∀ φ H, VR φ H v v) ∧ ((∃ k a k' b, x = .int k a ∧ y = .int k' b) ∨ ∃ a b, x = .string a ∧ y = .string b) := by
  unfold binEval at h
  split at h
  · split at h
    · cases h
    · cases h
      rename_i hb
      exact ⟨by simp [binOp, Op.shift, pure, hb], fun _ _ => .int .., .inl ⟨_, _, _, _, rfl, rfl⟩⟩
  · split at h
    · cases h
    · cases h
      rename_i hb
      exact ⟨by simp [binOp, Op.shift, pure, hb], fun _ _ => .int .., .inl ⟨_, _, _, _, rfl, rfl⟩⟩
  · split at h
    · rename_i hk
      subst hk
      obtain ⟨h1, h2⟩ := intEval_run (P := P) (w := w) h t
      exact ⟨h1, h2, .inl ⟨_, _, _, _, rfl, rfl⟩⟩
    · cases h
  · obtain ⟨h1, h2⟩ := strEval_run (P := P) (w := w) h t
    exact ⟨h1, h2, .inr ⟨_, _, rfl, rfl⟩⟩
  · cases h

/-! ### The words -/

def W.pick (c a b : Value) (H : Heap) (k : Post) : Prop :=
  match c with | .bool t => k (if t then a else b) H | _ => False

def unEval (op : UnOp) (x : Value) : Option Value :=
  match op, x with
  | .neg, .int k n => some (.int k (k.wrap (0 - n)))
  | .xor, .int k n => some (.int k (k.wrap (BitVec.ofInt k.bits (if k.signed then -1 else k.max) ^^^ BitVec.ofInt k.bits n).toNat))
  | .not, .bool b => some (.bool !b)
  | _, _ => none

def W.un (op : UnOp) (x : Value) (H : Heap) (k : Post) : Prop :=
  match unEval op x with | some v => k v H | none => False

/-- A number's kind turned. -/
def W.conv (κ : IntKind) (x : Value) (H : Heap) (k : Post) : Prop :=
  match x with | .int _ n => k (.int κ (κ.wrap n)) H | _ => False

/-- '==' and '!=' of a slice or a function with nil. -/
def isNilV : Value → Option Bool
  | .slice a _ _ => some a.isNone
  | .nilFunc => some true
  | .func (.func _) _ _ => some false
  | _ => none

def neg? (op : BinOp) (b : Bool) : Option Value :=
  match op with | .eql => some (.bool b) | .neq => some (.bool !b) | _ => none

def W.eqNilR (op : BinOp) (x y : Value) (H : Heap) (k : Post) : Prop :=
  match x, y with
  | .slice a _ e, .slice none _ 0 => match neg? op (a.isNone && Nat.beq e 0) with | some v => k v H | none => False
  | _, _ => False

def W.eqBool (op : BinOp) (x y : Value) (H : Heap) (k : Post) : Prop :=
  match x, y with
  | .bool a, .bool b => match neg? op (a == b) with | some v => k v H | none => False
  | _, _ => False

def W.get (p : Value) (H : Heap) (k : Post) : Prop :=
  match p with | .pointer (some a) => (match H.get a with | some v => k v H | none => False) | _ => False

def W.getN (n : Nat) (p : Value) (H : Heap) (k : Post) : Prop :=
  match p with | .pointer (some a) => (match H.getN a n with | some vs => k (.agg vs.toArray) H | none => False) | _ => False

def W.put (p v : Value) (H : Heap) (k : Post) : Prop :=
  match p with | .pointer (some a) => (match H.set a v with | some H' => k undef H' | none => False) | _ => False

def W.putN (n : Nat) (p v : Value) (H : Heap) (k : Post) : Prop :=
  match p, v with
  | .pointer (some a), .agg vs => if vs.size = n then (match H.setN a vs.toList with | some H' => k undef H' | none => False) else False
  | _, _ => False

def W.new (cells : List Value) (ty : TypeId) (H : Heap) (k : Post) : Prop :=
  k (.pointer (some ⟨H.next, 0, none⟩)) (H.alloc cells ty cells.length)

def W.box (v : Value) (ty : TypeId) (H : Heap) (k : Post) : Prop :=
  match v with
  | .agg vs => k (.pointer (some ⟨H.next, 0, none⟩)) (H.alloc vs.toList ty vs.size)
  | v => isCell v = true ∧ k (.pointer (some ⟨H.next, 0, none⟩)) (H.alloc [v] ty 1)

def W.fieldAddr (off : Nat) (p : Value) (H : Heap) (k : Post) : Prop :=
  match p with | .pointer (some a) => k (.pointer (some (a.add off))) H | _ => False

def W.indexAddr (sz : Nat) (x i : Value) (H : Heap) (k : Post) : Prop :=
  match x, i with
  | .slice (some a) len _, .int _ n => 0 ≤ n ∧ n < len ∧ k (.pointer (some (a.add (n.toNat * sz)))) H
  | _, _ => False

def W.indexArr (len sz : Nat) (x i : Value) (H : Heap) (k : Post) : Prop :=
  match x, i with
  | .pointer (some a), .int _ n => 0 ≤ n ∧ n < len ∧ k (.pointer (some (a.add (n.toNat * sz)))) H
  | _, _ => False

def W.indexStr (x i : Value) (H : Heap) (k : Post) : Prop :=
  match x, i with
  | .string s, .int _ n => 0 ≤ n ∧ (match s[n.toNat]? with | some b => k (.int .u8 b.toNat) H | none => False)
  | _, _ => False

def W.field (off : Nat) (x : Value) (H : Heap) (k : Post) : Prop :=
  match x with | .agg vs => (match vs[off]? with | some v => k v H | none => False) | _ => False

def W.fieldN (off n : Nat) (x : Value) (H : Heap) (k : Post) : Prop :=
  match x with | .agg vs => k (.agg (vs.extract off (off + n))) H | _ => False

def W.extract (i : Nat) (x : Value) (H : Heap) (k : Post) : Prop :=
  match x with | .tuple vs => (match vs[i]? with | some v => k v H | none => False) | _ => False

def W.len (x : Value) (H : Heap) (k : Post) : Prop :=
  match x with | .slice _ n _ => k (.int .i64 n) H | _ => False

def W.lenStr (x : Value) (H : Heap) (k : Post) : Prop :=
  match x with | .string s => k (.int .i64 s.size) H | _ => False

/-- A slice's capacity, where it is known exactly. -/
def W.cap (x : Value) (H : Heap) (k : Post) : Prop :=
  match x with | .slice _ _ e => e % 2 = 0 ∧ k (.int .i64 (e / 2 : Nat)) H | _ => False

def W.nilCheck (x : Value) (H : Heap) (k : Post) : Prop :=
  match x with | .pointer (some a) => k (.pointer (some a)) H | _ => False

/-! ### Each word does what its operation does -/

theorem neg?_run {op : BinOp} {b : Bool} {v : Value} (h : neg? op b = some v) : (op = .eql ∧ v = .bool b) ∨ (op = .neq ∧ v = .bool !b) := by
  cases op <;> simp [neg?] at h <;> simp [h]

section
variable {P : Program} {o : Oper} {ev : Operand → Value} {k : Post} {H : Heap}

theorem W.move_sound {x : Operand} (ho : o.op = .move x ∨ o.op = .assign x) : OpStep P o ev H (ev x) H :=
  .pure fun φ w cev s hx => by
    have : x ∈ o.op.operands.toList := by rcases ho with h | h <;> rw [h] <;> simp [Op.operands]
    refine ⟨cev x, ?_, hx x this⟩
    rcases ho with h | h <;> simp [execOp, h]

theorem W.pick_sound {c a b : Operand} (ho : o.op = .pick c a b) (h : W.pick (ev c) (ev a) (ev b) H k) : ∃ v H', k v H' ∧ OpStep P o ev H v H' := by
  unfold W.pick at h
  split at h
  · rename_i t hc
    refine ⟨_, _, h, .pure fun φ w cev s hx => ?_⟩
    have hc' := hx c (by rw [ho]; simp [Op.operands])
    rw [hc] at hc'
    have ha := hx a (by rw [ho]; simp [Op.operands])
    have hb := hx b (by rw [ho]; simp [Op.operands])
    refine ⟨if t then cev a else cev b, ?_, ?_⟩
    · simp [execOp, ho, hc'.of_bool, asBool]
    · split <;> assumption
  · exact h.elim

theorem W.bin_sound {op : BinOp} {t : TypeId} {x y : Operand} {t' : TypeId} (ho : o.op = .binOp op t x y t') (h : W.bin op (ev x) (ev y) H k) :
    ∃ v H', k v H' ∧ OpStep P o ev H v H' := by
  unfold W.bin at h
  split at h
  · rename_i v hv
    refine ⟨_, _, h, .pure fun φ w cev s hx => ?_⟩
    have hx' := hx x (by rw [ho]; simp [Op.operands])
    have hy' := hx y (by rw [ho]; simp [Op.operands])
    obtain ⟨h1, h2, h3⟩ := binEval_run (P := P) (w := w) (t := t) hv
    rcases h3 with ⟨κ, a, κ', b, e1, e2⟩ | ⟨a, b, e1, e2⟩ <;> rw [e1] at hx' h1 <;> rw [e2] at hy' h1
    · exact ⟨v, by simp [execOp, ho, hx'.of_int, hy'.of_int, eqGuard_at_int, h1], h2 φ H⟩
    · exact ⟨v, by simp [execOp, ho, hx'.of_string, hy'.of_string, eqGuard_at_string, h1], h2 φ H⟩
  · exact h.elim

theorem W.un_sound {op : UnOp} {t : TypeId} {x : Operand} (ho : o.op = .unOp op t x) (h : W.un op (ev x) H k) : ∃ v H', k v H' ∧ OpStep P o ev H v H' := by
  unfold W.un at h
  split at h
  · rename_i v hv
    refine ⟨_, _, h, .pure fun φ w cev s hx => ?_⟩
    have hx' := hx x (by rw [ho]; simp [Op.operands])
    unfold unEval at hv
    split at hv
    · rename_i e; rw [e] at hx'; cases hv
      exact ⟨_, by simp [execOp, ho, hx'.of_int, Op.unary, Op.intArith], .int ..⟩
    · rename_i e; rw [e] at hx'; cases hv
      exact ⟨_, by simp [execOp, ho, hx'.of_int, Op.unary, Op.intBits], .int ..⟩
    · rename_i e; rw [e] at hx'; cases hv
      exact ⟨_, by simp [execOp, ho, hx'.of_bool, Op.unary], .bool ..⟩
    · cases hv
  · exact h.elim

theorem W.conv_sound {κ : IntKind} {src dst : TypeId} {x : Operand} (ho : o.op = .convert src dst x) (hs : (P.underlying src).isSome = true)
    (hd : P.underlying dst = some (.int κ)) (h : W.conv κ (ev x) H k) : ∃ v H', k v H' ∧ OpStep P o ev H v H' := by
  unfold W.conv at h
  split at h
  · rename_i e
    refine ⟨_, _, h, .pure fun φ w cev s hx => ?_⟩
    have hx' := hx x (by rw [ho]; simp [Op.operands])
    rw [e] at hx'
    have hk : P.intKind dst = κ := by simp [Program.intKind, hd]
    exact ⟨_, by simp [execOp, ho, hx'.of_int]; rw [run_convert_int w src dst _ _ hs (by rw [hk]; exact hd), hk]; rfl, .int ..⟩
  · exact h.elim

theorem equal_nilR {P : Program} {w : World} {t e : TypeId} (hu : P.underlying t = some (.slice e)) (a : Option Addr) (n c n' c' : Nat) :
    (Op.equal t (.slice a n c) (.slice none n' c')).run P w = .ok a.isNone w := by
  show (Op.equalIn (9999 + 1) t _ _).run P w = _
  generalize 9999 = d
  cases a <;> simp only [Op.equalIn, Sem.run_bind, run_underlying hu, Result.andThen_ok] <;> rfl

theorem equal_bool {P : Program} {w : World} {t : TypeId} (hu : P.underlying t = some .bool) (a b : Bool) :
    (Op.equal t (.bool a) (.bool b)).run P w = .ok (a == b) w := by
  show (Op.equalIn (9999 + 1) t _ _).run P w = _
  generalize 9999 = d
  simp only [Op.equalIn, Sem.run_bind, run_underlying hu, Result.andThen_ok]
  rfl

theorem W.eqNilR_sound {op : BinOp} {t e : TypeId} {x y : Operand} {t' : TypeId} (ho : o.op = .binOp op t x y t') (hu : P.underlying t = some (.slice e))
    (h : W.eqNilR op (ev x) (ev y) H k) : ∃ v H', k v H' ∧ OpStep P o ev H v H' := by
  unfold W.eqNilR at h
  split at h
  · rename_i a n c n' e1 e2
    split at h
    · rename_i v hv
      refine ⟨_, _, h, .pure fun φ w cev s hx => ?_⟩
      have hx' := hx x (by rw [ho]; simp [Op.operands])
      have hy' := hx y (by rw [ho]; simp [Op.operands])
      rw [e1] at hx'; rw [e2] at hy'
      have hy' : cev y = .slice none 0 0 := by
        rcases hy'.of_snil with ⟨h, _⟩ | ⟨_, _, h⟩
        · exact h
        · cases h
      refine ⟨v, ?_, ?_⟩
      · obtain ⟨a', c', hx', ha⟩ : ∃ (a' : Option Addr) (c' : Nat), cev x = .slice a' n c' ∧ a'.isNone = (a.isNone && Nat.beq c 0) := by
          cases a with
          | none =>
            rcases hx'.of_snil with ⟨h1, h2, h3⟩ | ⟨⟨a', c', h1⟩, h2, h3⟩
            · exact ⟨none, 0, by rw [h1, h2], by rw [h3]; rfl⟩
            · exact ⟨some a', c', by rw [h1, h2], by rw [h3]; rfl⟩
          | some a =>
            obtain ⟨a', c', hx', -, -⟩ := hx'.of_slice
            exact ⟨some a', c', hx', rfl⟩
        rcases neg?_run hv with ⟨rfl, rfl⟩ | ⟨rfl, rfl⟩ <;>
          simp [execOp, ho, hx', hy', eqGuard_at_slice, binOp, equal_nilR hu, ha]
      · rcases neg?_run hv with ⟨-, rfl⟩ | ⟨-, rfl⟩ <;> exact .bool _
    · exact h.elim
  · exact h.elim

theorem W.eqBool_sound {op : BinOp} {t : TypeId} {x y : Operand} {t' : TypeId} (ho : o.op = .binOp op t x y t') (hu : P.underlying t = some .bool)
    (h : W.eqBool op (ev x) (ev y) H k) : ∃ v H', k v H' ∧ OpStep P o ev H v H' := by
  unfold W.eqBool at h
  split at h
  · rename_i a b e1 e2
    split at h
    · rename_i v hv
      refine ⟨_, _, h, .pure fun φ w cev s hx => ?_⟩
      have hx' := hx x (by rw [ho]; simp [Op.operands])
      have hy' := hx y (by rw [ho]; simp [Op.operands])
      rw [e1] at hx'; rw [e2] at hy'
      refine ⟨v, ?_, ?_⟩
      · rcases neg?_run hv with ⟨rfl, rfl⟩ | ⟨rfl, rfl⟩ <;>
          simp [execOp, ho, hx'.of_bool, hy'.of_bool, eqGuard_at_bool, binOp, equal_bool hu]
      · rcases neg?_run hv with ⟨-, rfl⟩ | ⟨-, rfl⟩ <;> exact .bool _
    · exact h.elim
  · exact h.elim

end

end Go.Ab
