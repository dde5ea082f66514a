/- Whatever order a region's operations come in: they give what they give in the text's order. -/
import Derived.Test.YtdbdmlfnggbdiaaZabDraw
namespace Go.Ab

theorem VR.mono {φ1 φ2 : Phi} {H1 H2 : Heap} {v u : Value} (h : VR φ1 H1 v u) (hn : H1.next ≤ H2.next)
    (hb : ∀ b, b < H1.next → ∀ k2, H2.blk b = some k2 → ∃ k1, H1.blk b = some k1 ∧ k2.esz = k1.esz ∧ φ2 b = φ1 b) : VR φ2 H2 v u := by
  have arx : ∀ a a', AR φ1 H1 a a' → AR φ2 H2 a a' := fun a a' h =>
    ⟨h.spot, h.spot', h.off, Nat.lt_of_lt_of_le h.lt hn, fun k2 hk2 => by
      obtain ⟨k1, g1, _, g3⟩ := hb _ h.lt k2 hk2
      rw [g3]; exact h.map k1 g1⟩
  induction h with
  | junk v => exact .junk v
  | bool b => exact .bool b
  | int k n => exact .int k n
  | string s => exact .string s
  | pnil => exact .pnil
  | ptr h => exact .ptr (arx _ _ h)
  | snil => exact .snil
  | emp a c => exact .emp a c
  | slice h hc hr =>
    exact .slice (arx _ _ h) hc fun k2 hk2 he => by
      obtain ⟨k1, g1, g2, g3⟩ := hb _ h.lt k2 hk2
      rw [g2, g3]; exact hr k1 g1 he
  | func f xs ys xs' ys' hx hy _ _ rx ry => exact .func f xs ys xs' ys' hx hy rx ry
  | nilFunc => exact .nilFunc
  | nilIface => exact .nilIface
  | agg xs xs' hx _ rx => exact .agg xs xs' hx rx
  | tuple xs xs' hx _ rx => exact .tuple xs xs' hx rx

/-- All blocks that a value names have numbers below n. -/
def Sc (n : Nat) (v : Value) : Prop := ∃ (φ : Phi) (H : Heap) (u : Value), H.next ≤ n ∧ VR φ H v u

theorem Sc.mono {n m : Nat} {v : Value} (h : Sc n v) (hm : n ≤ m) : Sc m v := let ⟨φ, H, u, h1, h2⟩ := h; ⟨φ, H, u, Nat.le_trans h1 hm, h2⟩

theorem VR.down {φ1 φ2 : Phi} {H1 H2 : Heap} {v u : Value} (h : VR φ2 H2 v u) (hs : Sc H1.next v)
    (hb : ∀ b, b < H1.next → ∀ k1, H1.blk b = some k1 → ∃ k2, H2.blk b = some k2 ∧ k1.esz = k2.esz ∧ φ1 b = φ2 b) : VR φ1 H1 v u := by
  have arx : ∀ a a', AR φ2 H2 a a' → a.block < H1.next → AR φ1 H1 a a' := fun a a' h hl =>
    ⟨h.spot, h.spot', h.off, hl, fun k1 hk1 => by
      obtain ⟨k2, g1, _, g3⟩ := hb _ hl k1 hk1
      rw [g3]; exact h.map k2 g1⟩
  induction h with
  | junk v => exact .junk v
  | bool b => exact .bool b
  | int k n => exact .int k n
  | string s => exact .string s
  | pnil => exact .pnil
  | ptr h =>
    obtain ⟨φ, H, u, h1, h2⟩ := hs
    obtain ⟨a', _, h3⟩ := h2.of_ptr
    exact .ptr (arx _ _ h (Nat.lt_of_lt_of_le h3.lt h1))
  | snil => exact .snil
  | emp a c => exact .emp a c
  | slice h hc hr =>
    obtain ⟨φ, H, u, h1, h2⟩ := hs
    obtain ⟨a', _, _, h3, _⟩ := h2.of_slice
    have hl := Nat.lt_of_lt_of_le h3.lt h1
    exact .slice (arx _ _ h hl) hc fun k1 hk1 he => by
      obtain ⟨k2, g1, g2, g3⟩ := hb _ hl k1 hk1
      rw [g2, g3]; exact hr k2 g1 he
  | func f xs ys xs' ys' hx hy _ _ rx ry =>
    obtain ⟨φ, H, u, h1, h2⟩ := hs
    obtain ⟨xs2, ys2, _, l1, l2, q1, q2⟩ := h2.of_func
    exact .func f xs ys xs' ys' hx hy (fun i g1 g2 => rx i g1 g2 ⟨φ, H, _, h1, q1 i g1 (by omega)⟩) (fun i g1 g2 => ry i g1 g2 ⟨φ, H, _, h1, q2 i g1 (by omega)⟩)
  | nilFunc => exact .nilFunc
  | nilIface => exact .nilIface
  | agg xs xs' hx _ rx =>
    obtain ⟨φ, H, u, h1, h2⟩ := hs
    obtain ⟨xs2, _, l1, q1⟩ := h2.of_agg
    exact .agg xs xs' hx (fun i g1 g2 => rx i g1 g2 ⟨φ, H, _, h1, q1 i g1 (by omega)⟩)
  | tuple xs xs' hx _ rx =>
    obtain ⟨φ, H, u, h1, h2⟩ := hs
    obtain ⟨xs2, _, l1, q1⟩ := h2.of_tuple
    exact .tuple xs xs' hx (fun i g1 g2 => rx i g1 g2 ⟨φ, H, _, h1, q1 i g1 (by omega)⟩)

/-- A step so far: what Ext says, but for what is not yet done. -/
structure PExt (φ : Phi) (H : Heap) (w : World) (φ' : Phi) (H' : Heap) (w' : World) : Prop where
  next : H.next ≤ H'.next
  back : ∀ b, b < H.next → ∀ k', H'.blk b = some k' → ∃ k, H.blk b = some k ∧ k'.ro = k.ro ∧ k'.ty = k.ty ∧ k'.esz = k.esz
  agree : ∀ b, b < H.next → H'.blk b ≠ none → φ' b = φ b
  fresh : ∀ b cb r, H.next ≤ b → φ' b = some (cb, r) →
    w.heap.size ≤ cb ∨ ∃ b0 k0 r0, b0 < H.next ∧ φ b0 = some (cb, r0) ∧ H.blk b0 = some k0 ∧ k0.ro = false ∧ H'.blk b0 = none
  frame : ∀ cb, cb < w.heap.size → (∀ b k r, φ b = some (cb, r) → H.blk b = some k → k.ro = true) → w'.heap[cb]? = w.heap[cb]?
  size : w.heap.size ≤ w'.heap.size
  os : w'.os = w.os
  tape : w'.tape = w.tape
  output : w'.output = w.output

theorem PExt.trans {φ H w φ' H' w' φ'' H'' w''} (x : PExt φ H w φ' H' w') (y : Ext φ' H' w' φ'' H'' w'') : PExt φ H w φ'' H'' w'' where
  next := Nat.le_trans x.next y.next
  back := fun b hb k'' h'' => by
    obtain ⟨k', h', r', t', e'⟩ := y.back b (Nat.lt_of_lt_of_le hb x.next) k'' h''
    obtain ⟨k, h, r, t, e⟩ := x.back b hb k' h'
    exact ⟨k, h, r'.trans r, t'.trans t, e'.trans e⟩
  agree := fun b hb h'' => by
    have hb' := Nat.lt_of_lt_of_le hb x.next
    have h' : H'.blk b ≠ none := by
      obtain ⟨k'', hk''⟩ := Option.ne_none_iff_exists'.1 h''
      obtain ⟨k', h', _⟩ := y.back b hb' k'' hk''
      rw [h']; simp
    rw [y.agree b hb' h'', x.agree b hb h']
  fresh := fun b cb r hb h'' => by
    have dead : ∀ b0, b0 < H.next → H'.blk b0 = none → H''.blk b0 = none := fun b0 hb0 h0 => by
      cases hk : H''.blk b0 with
      | none => rfl
      | some k'' =>
        obtain ⟨k', h', _⟩ := y.back b0 (Nat.lt_of_lt_of_le hb0 x.next) k'' hk
        rw [h0] at h'; cases h'
    have one : ∀ b r, H.next ≤ b → φ' b = some (cb, r) →
        w.heap.size ≤ cb ∨ ∃ b0 k0 r0, b0 < H.next ∧ φ b0 = some (cb, r0) ∧ H.blk b0 = some k0 ∧ k0.ro = false ∧ H''.blk b0 = none := fun b r hb h' => by
      rcases x.fresh b cb r hb h' with h | ⟨b0, k0, r0, h1, h2, h3, h4, h5⟩
      · exact .inl h
      · exact .inr ⟨b0, k0, r0, h1, h2, h3, h4, dead b0 h1 h5⟩
    by_cases hb' : H'.next ≤ b
    · rcases y.fresh b cb r hb' h'' with h | ⟨b0, k0, r0, h1, h2, h3, h4, h5⟩
      · exact .inl (Nat.le_trans x.size h)
      · by_cases h0 : b0 < H.next
        · obtain ⟨k, hk, hr, _⟩ := x.back b0 h0 k0 h3
          exact .inr ⟨b0, k, r0, h0, by rw [← x.agree b0 h0 (by rw [h3]; simp)]; exact h2, hk, by rw [← hr]; exact h4, h5⟩
        · exact one b0 r0 (by omega) h2
    · have hb' : b < H'.next := by omega
      rw [y.agree b hb' (y.sim.live b _ h'')] at h''
      exact one b r hb h''
  frame := fun cb hcb hro => by
    rw [y.frame cb (Nat.lt_of_lt_of_le hcb x.size) ?_, x.frame cb hcb hro]
    intro b k' r hb hk'
    by_cases hb0 : b < H.next
    · obtain ⟨k, hk, hr, _⟩ := x.back b hb0 k' hk'
      rw [hr]
      exact hro b k r (by rw [← x.agree b hb0 (by rw [hk']; simp)]; exact hb) hk
    · rcases x.fresh b cb r (by omega) hb with h | ⟨b0, k0, r0, h1, h2, h3, h4, h5⟩
      · omega
      · rw [hro b0 k0 r0 h2 h3] at h4; cases h4
  size := Nat.le_trans x.size y.size
  os := y.os.trans x.os
  tape := y.tape.trans x.tape
  output := y.output.trans x.output

theorem PExt.le {φ H w φ' H' w' H''} (x : PExt φ H w φ' H' w') (l : H'.Le H'') : PExt φ H w φ' H'' w' where
  next := Nat.le_trans x.next l.next
  back := fun b hb k'' h => x.back b hb k'' (by rw [← l.blk b (Nat.lt_of_lt_of_le hb x.next)]; exact h)
  agree := fun b hb h => x.agree b hb (by rw [← l.blk b (Nat.lt_of_lt_of_le hb x.next)]; exact h)
  fresh := fun b cb r hb h => by
    rcases x.fresh b cb r hb h with h | ⟨b0, k0, r0, h1, h2, h3, h4, h5⟩
    · exact .inl h
    · exact .inr ⟨b0, k0, r0, h1, h2, h3, h4, by rw [l.blk b0 (Nat.lt_of_lt_of_le h1 x.next)]; exact h5⟩
  frame := x.frame
  size := x.size
  os := x.os
  tape := x.tape
  output := x.output

theorem Sim.up {φ : Phi} {H H2 : Heap} {w : World} (s : Sim φ H w) (l : H.Le H2) (wf : ∀ b, H2.blk b ≠ none → b < H2.next) : Sim φ H2 w where
  wf := wf
  live := fun b x h => by rw [l.blk b (s.wf b (s.live b x h))]; exact s.live b x h
  inj := s.inj
  cells := fun b k cb r hk hb => by
    rw [l.blk b (s.wf b (s.live b _ hb))] at hk
    obtain ⟨arr, fz, g1, g2, g3, g4, g5⟩ := s.cells b k cb r hk hb
    refine ⟨arr, fz, g1, g2, g3, g4, fun i v hv => ?_⟩
    obtain ⟨v', h1, h2⟩ := g5 i v hv
    exact ⟨v', h1, h2.mono l.next fun c hc k2 hk2 => ⟨k2, by rw [← l.blk c hc]; exact hk2, rfl, rfl⟩⟩

/-- What an operation comes to when nothing may go wrong: some frame, some world. -/
theorem step_extract {P : Program} {ops : Array Oper} {o : Oper} {a : Act} {w : World} {next : Act → World → Prop}
    (h : if Region.wanted o (yielded ops a.tmps) then o.wp P a w next (fun _ _ _ => False) ∨ (o.asks P a w ∧ LetsOut (fun _ _ _ => False)) else next (a.put o.dst undef) w) :
    ∃ a' w', next a' w' := by
  split at h
  · rcases h with h | ⟨_, _, _, h⟩
    · unfold Oper.wp at h
      generalize (execOp a.eval o).run P w = r at h
      cases r with
      | ok n w' =>
        cases n <;> simp only [Oper.upon] at h <;> first
          | exact ⟨_, _, h⟩
          | (obtain ⟨e, w2, fr, hR, _⟩ := h []
             cases e <;> first | exact ⟨_, _, hR⟩ | exact hR.elim | (obtain ⟨_, _, hf⟩ := hR; exact hf.elim))
          | (obtain ⟨v, w2, hR, _⟩ := h default []; exact ⟨_, _, hR⟩)
          | exact h.elim
      | halt x w' => cases x <;> simp only [Oper.upon] at h
    · exact h.elim
  · exact ⟨_, _, h⟩

/-! ### The region -/

section region
variable {P : Program} {ops : Array Oper} {nt : Nat} {F : Nat → Frm} {HH : Nat → Heap} {V : Nat → Value}

/-- The run in the text's order is there. -/
theorem text_run (hdst : dstsOk nt ops.toList = true)
    (hrun : ∀ j o, ops.toList[j]? = some o → F (j + 1) = (F j).put o.dst (V j) ∧ RunAt P ops.toList o (F j) (HH j) (V j) (HH (j + 1)))
    {φ0 : Phi} {w0 : World} {a0 : Act} (s0 : Sim φ0 (HH 0) w0) (f0 : FR φ0 (HH 0) (F 0) a0.tmps) (n0 : a0.tmps.size = nt) :
    ∀ i, i ≤ ops.size → ∃ (φ : Phi) (w : World) (a : Act), Sim φ (HH i) w ∧ FR φ (HH i) (F i) a.tmps ∧ a.tmps.size = nt ∧ (HH 0).next ≤ (HH i).next
  | 0, _ => ⟨φ0, w0, a0, s0, f0, n0, Nat.le_refl _⟩
  | i + 1, hi => by
    obtain ⟨φ, w, a, s, f, hn, hnx⟩ := text_run hdst hrun s0 f0 n0 i (by omega)
    have ho : ops.toList[i]? = some (ops[i]'(by omega)) := by simp
    obtain ⟨hF, hr⟩ := hrun i _ ho
    obtain ⟨a', w', φ', h1, h2, h3⟩ := step_extract (P := P) (next := fun a' w' => ∃ φ', Sim φ' (HH (i + 1)) w' ∧ FR φ' (HH (i + 1)) (F (i + 1)) a'.tmps ∧ a'.tmps.size = nt ∧ (HH 0).next ≤ (HH (i + 1)).next)
      (hr.g.wpOp s (fun x _ => f.eval x) (fun j want t _ _ => f t) fun φ' w' cv x r => by
        refine ⟨φ', x.sim, ?_, by rw [put_size]; exact hn, Nat.le_trans hnx x.next⟩
        rw [hF]
        exact FR.put (fun t => (f t).ext x) r (fun t ht => by rw [hn]; exact dstsOk_spec hdst (List.mem_of_getElem? ho) t ht))
    exact ⟨φ', w', a', h1, h2, h3⟩

/-- What may come at other times than in the text. -/
def isFl (o : Oper) : Bool := isPure o.op || isLd o

theorem isFl_pure {o : Oper} (h : isFl o = false) : isPure o.op = false := by
  unfold isFl at h
  rw [Bool.or_eq_false_iff] at h
  exact h.1

/-- The slot's writers ahead of i are done, the others are not. -/
def Valid (ops : Array Oper) (L : Nat → Prop) (t i : Nat) : Prop :=
  (∀ j o, ops.toList[j]? = some o → j < i → writesT o t = true → L j) ∧ (∀ j o, ops.toList[j]? = some o → i ≤ j → writesT o t = true → ¬ L j)

structure Inv (ops : Array Oper) (nt : Nat) (F : Nat → Frm) (HH : Nat → Heap) (φ0 : Phi) (w0 : World) (L : Nat → Prop) (a : Act) (w : World) (p q : Nat) (φ : Phi) : Prop where
  pq : p ≤ q
  qn : q ≤ ops.size
  done : ∀ i o, ops.toList[i]? = some o → isFl o = false → i < p → L i
  todo : ∀ i o, ops.toList[i]? = some o → isPure o.op = false → q ≤ i → ¬ L i
  noE : ∀ i o, ops.toList[i]? = some o → p ≤ i → i < q → isE o.op = false
  atE : ∀ o, ops.toList[q]? = some o → isE o.op = true
  sim : Sim φ (HH q) w
  sc : ∀ i b k, p ≤ i → i ≤ q → φ b ≠ none → (HH i).blk b = some k → ∀ v ∈ k.cells, Sc (HH i).next v
  nd : ∀ j o, ops.toList[j]? = some o → p ≤ j → j < q → ¬ L j → ∀ b, (HH j).next ≤ b → b < (HH (j + 1)).next → φ b = none
  mp : ∀ b, (HH 0).next ≤ b → b < (HH p).next → (HH p).blk b ≠ none → φ b ≠ none
  mj : ∀ j o, ops.toList[j]? = some o → p ≤ j → j < q → L j → ∀ b, (HH j).next ≤ b → b < (HH (j + 1)).next → (HH (j + 1)).blk b ≠ none → φ b ≠ none
  ext : PExt φ0 (HH 0) w0 φ (HH q) w
  tm : ∀ t i, i ≤ ops.size → Valid ops L t i → VR φ (HH q) (F i t) (a.tmps.getD t undef)

theorem next_E (ops : Array Oper) : ∀ (d p : Nat), p + d = ops.size → ∃ q, p ≤ q ∧ q ≤ ops.size ∧ (∀ i o, ops.toList[i]? = some o → p ≤ i → i < q → isE o.op = false) ∧ (∀ o, ops.toList[q]? = some o → isE o.op = true)
  | 0, p, h => ⟨p, Nat.le_refl _, by omega, fun i o _ h1 h2 => by omega, fun o ho => by rw [List.getElem?_eq_none (by simp; omega)] at ho; cases ho⟩
  | d + 1, p, h => by
    have ho : ops.toList[p]? = some (ops[p]'(by omega)) := by simp
    cases hE : isE (ops[p]'(by omega)).op with
    | true => exact ⟨p, Nat.le_refl _, by omega, fun i o _ h1 h2 => by omega, fun o h' => by rw [ho] at h'; cases h'; exact hE⟩
    | false =>
      obtain ⟨q, h1, h2, h3, h4⟩ := next_E ops d (p + 1) (by omega)
      refine ⟨q, by omega, h2, fun i o hi hp hq => ?_, h4⟩
      by_cases h : i = p
      · subst h; rw [ho] at hi; cases hi; exact hE
      · exact h3 i o hi (by omega) hq

/-- Inside a segment what was stays. -/
theorem seg_le (hrun : ∀ j o, ops.toList[j]? = some o → F (j + 1) = (F j).put o.dst (V j) ∧ RunAt P ops.toList o (F j) (HH j) (V j) (HH (j + 1))) {p q : Nat} (hq : q ≤ ops.size)
    (noE : ∀ i o, ops.toList[i]? = some o → p ≤ i → i < q → isE o.op = false) : ∀ (d i : Nat), p ≤ i → i + d ≤ q → (HH i).Le (HH (i + d))
  | 0, i, _, _ => .refl _
  | d + 1, i, hp, hd => by
    have ho : ops.toList[i + d]? = some (ops[i + d]'(by omega)) := by simp
    exact (seg_le hrun hq noE d i hp (by omega)).trans ((hrun _ _ ho).2.calm (noE _ _ ho (by omega) (by omega)))

theorem seg_le' (hrun : ∀ j o, ops.toList[j]? = some o → F (j + 1) = (F j).put o.dst (V j) ∧ RunAt P ops.toList o (F j) (HH j) (V j) (HH (j + 1))) {p q : Nat} (hq : q ≤ ops.size)
    (noE : ∀ i o, ops.toList[i]? = some o → p ≤ i → i < q → isE o.op = false) {i j : Nat} (hp : p ≤ i) (hij : i ≤ j) (hj : j ≤ q) : (HH i).Le (HH j) := by
  have := seg_le hrun hq noE (j - i) i hp (by omega)
  rwa [show i + (j - i) = j by omega] at this

/-- Where a segment begins. -/
theorem seg_start (hrun : ∀ j o, ops.toList[j]? = some o → F (j + 1) = (F j).put o.dst (V j) ∧ RunAt P ops.toList o (F j) (HH j) (V j) (HH (j + 1)))
    (wf : ∀ i, i ≤ ops.size → ∀ b, (HH i).blk b ≠ none → b < (HH i).next) {φ0 : Phi} {w0 : World} {L : Nat → Prop} {a : Act} {w : World} {p : Nat} {φ : Phi} (hp : p ≤ ops.size)
    (done : ∀ i o, ops.toList[i]? = some o → isFl o = false → i < p → L i) (todo : ∀ i o, ops.toList[i]? = some o → isPure o.op = false → p ≤ i → ¬ L i)
    (sim : Sim φ (HH p) w) (mp : ∀ b, (HH 0).next ≤ b → b < (HH p).next → (HH p).blk b ≠ none → φ b ≠ none) (ext : PExt φ0 (HH 0) w0 φ (HH p) w)
    (tm : ∀ t i, i ≤ ops.size → Valid ops L t i → VR φ (HH p) (F i t) (a.tmps.getD t undef)) : ∃ q, Inv ops nt F HH φ0 w0 L a w p q φ := by
  obtain ⟨q, h1, h2, h3, h4⟩ := next_E ops (ops.size - p) p (by omega)
  have le := fun {i j : Nat} (a : p ≤ i) (b : i ≤ j) (c : j ≤ q) => seg_le' hrun h2 h3 a b c
  have lpq : (HH p).Le (HH q) := le (Nat.le_refl _) h1 (Nat.le_refl _)
  have dom : ∀ b, φ b ≠ none → b < (HH p).next := fun b hb => by
    obtain ⟨x, hx⟩ := Option.ne_none_iff_exists'.1 hb
    exact sim.wf b (sim.live b x hx)
  refine ⟨q, ⟨h1, h2, done, fun i o hi hpu hq => todo i o hi hpu (by omega), h3, h4, sim.up lpq (wf q h2), ?_, ?_, mp, ?_, ext.le lpq,
    fun t i hi hv => (tm t i hi hv).mono lpq.next fun b hb k2 hk2 => ⟨k2, by rw [← lpq.blk b hb]; exact hk2, rfl, rfl⟩⟩⟩
  · intro i b k hpi hiq hb hk v hv
    have hlt := dom b hb
    have lpi := le (Nat.le_refl _) hpi hiq
    rw [lpi.blk b hlt] at hk
    obtain ⟨⟨cb, r⟩, hx⟩ := Option.ne_none_iff_exists'.1 hb
    obtain ⟨arr, fz, _, _, _, _, g⟩ := sim.cells b k cb r hk hx
    obtain ⟨j, hj, rfl⟩ := List.mem_iff_getElem.1 hv
    obtain ⟨v', _, g2⟩ := g j _ (List.getElem?_eq_getElem hj)
    exact ⟨φ, HH p, v', lpi.next, g2⟩
  · intro j o ho hpj hjq _ b hb _
    cases hφ : φ b with
    | none => rfl
    | some x =>
      have := dom b (by rw [hφ]; simp)
      have := (le (Nat.le_refl _) hpj (by omega)).next
      omega
  · intro j o ho hpj hjq hL b hb hb2 _
    cases hpu : isPure o.op with
    | true =>
      have := ((hrun j o ho).2.pure hpu).1
      rw [this] at hb2
      omega
    | false => exact absurd hL (todo j o ho hpu hpj)

/-- All that the segment makes has its place once all of it is done. -/
theorem seg_mapped (hrun : ∀ j o, ops.toList[j]? = some o → F (j + 1) = (F j).put o.dst (V j) ∧ RunAt P ops.toList o (F j) (HH j) (V j) (HH (j + 1)))
    {φ0 : Phi} {w0 : World} {L : Nat → Prop} {a : Act} {w : World} {p q : Nat} {φ : Phi}
    (I : Inv ops nt F HH φ0 w0 L a w p q φ) (all : ∀ i o, ops.toList[i]? = some o → isFl o = false → p ≤ i → i < q → L i) :
    ∀ b, (HH 0).next ≤ b → b < (HH q).next → (HH q).blk b ≠ none → φ b ≠ none := by
  have key : ∀ d, p + d ≤ q → ∀ b, (HH 0).next ≤ b → b < (HH (p + d)).next → (HH q).blk b ≠ none → φ b ≠ none := by
    intro d
    induction d with
    | zero =>
      intro hd b h0 hb hl
      exact I.mp b h0 hb (by rw [← (seg_le' hrun I.qn I.noE (Nat.le_refl _) I.pq (Nat.le_refl _)).blk b hb]; exact hl)
    | succ d ih =>
      intro hd b h0 hb hl
      by_cases h : b < (HH (p + d)).next
      · exact ih (by omega) b h0 h hl
      · have hlt : p + d < ops.size := by have := I.qn; omega
        have ho : ops.toList[p + d]? = some (ops[p + d]'hlt) := by simp
        cases hpu : isFl (ops[p + d]'hlt) with
        | true =>
          have : HH (p + d + 1) = HH (p + d) := by
            rcases Bool.or_eq_true_iff.1 hpu with hp | hl
            · exact ((hrun _ _ ho).2.pure hp).1
            · exact (hrun _ _ ho).2.ld hl
          rw [show p + (d + 1) = p + d + 1 by omega, this] at hb
          exact absurd hb h
        | false =>
          refine I.mj _ _ ho (by omega) (by omega) (all _ _ ho hpu (by omega) (by omega)) b (by omega) hb ?_
          rw [← (seg_le' hrun I.qn I.noE (i := p + d + 1) (j := q) (by omega) (by omega) (Nat.le_refl _)).blk b hb]
          exact hl
  have := key (q - p) (by have := I.pq; omega)
  rwa [show p + (q - p) = q by have := I.pq; omega] at this

/-- A slot that nobody writes between i and j holds the same there. -/
theorem same_slot (hrun : ∀ j o, ops.toList[j]? = some o → F (j + 1) = (F j).put o.dst (V j) ∧ RunAt P ops.toList o (F j) (HH j) (V j) (HH (j + 1))) (t : Nat) :
    ∀ (d i : Nat), i + d ≤ ops.size → (∀ j o, ops.toList[j]? = some o → i ≤ j → j < i + d → writesT o t = false) → F (i + d) t = F i t
  | 0, i, _, _ => rfl
  | d + 1, i, hd, hw => by
    have ho : ops.toList[i + d]? = some (ops[i + d]'(by omega)) := by simp
    have h1 := same_slot hrun t d i (by omega) (fun j o hj a b => hw j o hj a (by omega))
    rw [show i + (d + 1) = i + d + 1 by omega, (hrun _ _ ho).1, ← h1]
    exact Frm.put_ne (hw _ _ ho (by omega) (by omega))

/-- The slots behind one more operation. -/
theorem tm_step (hdst : dstsOk nt ops.toList = true)
    (hrun : ∀ j o, ops.toList[j]? = some o → F (j + 1) = (F j).put o.dst (V j) ∧ RunAt P ops.toList o (F j) (HH j) (V j) (HH (j + 1)))
    {L : Nat → Prop} {a : Act} {j : Nat} {o : Oper} (ho : ops.toList[j]? = some o) (hjL : ¬ L j) (hnt : a.tmps.size = nt)
    (hlater : ∀ i o', ops.toList[i]? = some o' → j < i → L i → ∀ t, writesT o t = true → writesT o' t = false)
    {φ φ' : Phi} {H H' : Heap} {cv : Value} (tm : ∀ t i, i ≤ ops.size → Valid ops L t i → VR φ H (F i t) (a.tmps.getD t undef))
    (up : ∀ v u, VR φ H v u → VR φ' H' v u) (hv : VR φ' H' (V j) cv) :
    ∀ t i, i ≤ ops.size → Valid ops (fun i => L i ∨ i = j) t i → VR φ' H' (F i t) ((a.put o.dst cv).tmps.getD t undef) := by
  intro t i hi hval
  rw [put_tmps]
  have hjn : j < ops.size := by have := (List.getElem?_eq_some_iff.1 ho).1; simpa using this
  cases hw : writesT o t with
  | true =>
    have hd : o.dst = some t := by
      unfold writesT at hw
      cases h : o.dst with
      | none => rw [h] at hw; cases hw
      | some d => rw [h] at hw; rw [Nat.eq_of_beq_eq_true hw]
    rw [if_pos ⟨hd, by rw [hnt]; exact dstsOk_spec hdst (List.mem_of_getElem? ho) t hd⟩]
    have hji : j < i := by
      rcases Nat.lt_or_ge j i with h | h
      · exact h
      · exact absurd (Or.inr rfl) (hval.2 j o ho h hw)
    have hF : F i t = V j := by
      have h1 := same_slot hrun t (i - (j + 1)) (j + 1) (by omega) (fun m o' hm h1 h2 => by
        cases hw' : writesT o' t with
        | false => rfl
        | true =>
          rcases hval.1 m o' hm (by omega) hw' with h | h
          · have := hlater m o' hm (by omega) h t hw
            rw [this] at hw'; cases hw'
          · omega)
      rw [show j + 1 + (i - (j + 1)) = i by omega] at h1
      rw [h1, (hrun j o ho).1, hd]
      simp [Frm.put]
    rw [hF]
    exact hv
  | false =>
    have hne : ¬ (o.dst = some t ∧ t < a.tmps.size) := fun h => by
      unfold writesT at hw
      rw [h.1] at hw
      simp at hw
    rw [if_neg hne]
    refine up _ _ (tm t i hi ⟨fun m o' hm hmi hw' => ?_, fun m o' hm hmi hw' hL => hval.2 m o' hm hmi hw' (.inl hL)⟩)
    rcases hval.1 m o' hm hmi hw' with h | h
    · exact h
    · subst h
      rw [ho] at hm
      cases hm
      rw [hw] at hw'; cases hw'

theorem inv_float (hdst : dstsOk nt ops.toList = true)
    (hrun : ∀ j o, ops.toList[j]? = some o → F (j + 1) = (F j).put o.dst (V j) ∧ RunAt P ops.toList o (F j) (HH j) (V j) (HH (j + 1)))
    {φ0 : Phi} {w0 : World} {L : Nat → Prop} {a : Act} {w : World} {p q : Nat} {φ : Phi} (I : Inv ops nt F HH φ0 w0 L a w p q φ) (hnt : a.tmps.size = nt)
    {j : Nat} {o : Oper} (ho : ops.toList[j]? = some o) (hjL : ¬ L j) (hp : isPure o.op = true ∨ (isLd o = true ∧ j < q))
    (hlater : ∀ i o', ops.toList[i]? = some o' → j < i → L i → ∀ t, writesT o t = true → writesT o' t = false)
    {φ' : Phi} {w' : World} {cv : Value} (x : Ext φ (HH q) w φ' (HH q) w') (r : VR φ' (HH q) (V j) cv) :
    Inv ops nt F HH φ0 w0 (fun i => L i ∨ i = j) (a.put o.dst cv) w' p q φ' := by
  have hφ : φ' = φ := funext fun b => by
    cases hb : φ b with
    | some y => rw [← hb]; exact x.agree b (I.sim.wf b (I.sim.live b y hb)) (I.sim.live b y hb)
    | none =>
      cases hb' : φ' b with
      | none => rfl
      | some y =>
        have hl := x.sim.live b y hb'
        rw [x.agree b (I.sim.wf b hl) hl, hb] at hb'
        cases hb'
  subst hφ
  refine ⟨I.pq, I.qn, fun i o' h1 h2 h3 => .inl (I.done i o' h1 h2 h3), ?_, I.noE, I.atE, x.sim, I.sc, ?_, I.mp, ?_, I.ext.trans x, ?_⟩
  · intro i o' h1 h2 h3 h4
    rcases h4 with h4 | h4
    · exact I.todo i o' h1 h2 h3 h4
    · subst h4; rw [ho] at h1; cases h1
      rcases hp with hp | hp
      · rw [hp] at h2; cases h2
      · omega
  · intro i o' h1 h2 h3 h4
    exact I.nd i o' h1 h2 h3 (fun h => h4 (.inl h))
  · intro i o' h1 h2 h3 h4 b hb1 hb2
    rcases h4 with h4 | h4
    · exact I.mj i o' h1 h2 h3 h4 b hb1 hb2
    · subst h4
      have e : HH (i + 1) = HH i := by
        rcases hp with hp | hp
        · exact ((hrun i o ho).2.pure hp).1
        · exact (hrun i o ho).2.ld hp.1
      rw [e] at hb2
      omega
  · exact tm_step hdst hrun ho hjL hnt hlater I.tm (fun v u h => h.ext x) r

theorem Sim.down {φ : Phi} {H H2 : Heap} {w : World} (s : Sim φ H2 w) (l : H.Le H2) (wf : ∀ b, H.blk b ≠ none → b < H.next)
    (sc : ∀ b k, φ b ≠ none → H.blk b = some k → ∀ v ∈ k.cells, Sc H.next v) : Sim (fun b => if b < H.next then φ b else none) H w where
  wf := wf
  live := fun b x h => by
    split at h
    · rename_i hb; rw [← l.blk b hb]; exact s.live b x h
    · cases h
  inj := fun b c cb r r' h1 h2 => by
    split at h1
    · split at h2
      · exact s.inj b c cb r r' h1 h2
      · cases h2
    · cases h1
  cells := fun b k cb r hk hb => by
    split at hb
    · rename_i hlt
      obtain ⟨arr, fz, g1, g2, g3, g4, g5⟩ := s.cells b k cb r (by rw [l.blk b hlt]; exact hk) hb
      refine ⟨arr, fz, g1, g2, g3, g4, fun i v hv => ?_⟩
      obtain ⟨v', h1, h2⟩ := g5 i v hv
      refine ⟨v', h1, h2.down (sc b k (by rw [hb]; simp) hk v (List.mem_of_getElem? hv)) fun c hc k1 hk1 => ⟨k1, by rw [l.blk c hc]; exact hk1, rfl, ?_⟩⟩
      simp [hc]
    · cases hb

theorem inv_calm (hdst : dstsOk nt ops.toList = true)
    (hrun : ∀ j o, ops.toList[j]? = some o → F (j + 1) = (F j).put o.dst (V j) ∧ RunAt P ops.toList o (F j) (HH j) (V j) (HH (j + 1)))
    (wf : ∀ i, i ≤ ops.size → ∀ b, (HH i).blk b ≠ none → b < (HH i).next) (nx : ∀ i, i ≤ ops.size → (HH 0).next ≤ (HH i).next)
    {φ0 : Phi} {w0 : World} {L : Nat → Prop} {a : Act} {w : World} {p q : Nat} {φ : Phi} (I : Inv ops nt F HH φ0 w0 L a w p q φ) (hnt : a.tmps.size = nt)
    {j : Nat} {o : Oper} (ho : ops.toList[j]? = some o) (hjL : ¬ L j) (hpj : p ≤ j) (hjq : j < q) (_ : isPure o.op = false)
    (hlater : ∀ i o', ops.toList[i]? = some o' → j < i → L i → ∀ t, writesT o t = true → writesT o' t = false)
    {φ' : Phi} {w' : World} {cv : Value} (x : Ext (fun b => if b < (HH j).next then φ b else none) (HH j) w φ' (HH (j + 1)) w') (r : VR φ' (HH (j + 1)) (V j) cv) :
    ∃ φn, Inv ops nt F HH φ0 w0 (fun i => L i ∨ i = j) (a.put o.dst cv) w' p q φn := by
  have le := fun {i k : Nat} (a : p ≤ i) (b : i ≤ k) (c : k ≤ q) => seg_le' hrun I.qn I.noE a b c
  have l1 : (HH j).Le (HH (j + 1)) := le hpj (by omega) (by omega)
  have l2 : (HH (j + 1)).Le (HH q) := le (by omega) (by omega) (Nat.le_refl _)
  have l0 : (HH j).Le (HH q) := l1.trans l2
  have n1 := l1.next
  have n2 := l2.next
  have l00 : (HH 0).next ≤ (HH q).next := I.ext.next
  let φn : Phi := fun b => if (HH j).next ≤ b ∧ b < (HH (j + 1)).next then φ' b else φ b
  have new_eq : ∀ b, (HH j).next ≤ b → b < (HH (j + 1)).next → φn b = φ' b := fun b h1 h2 => by simp only [φn]; rw [if_pos ⟨h1, h2⟩]
  have old_eq : ∀ b, ¬ ((HH j).next ≤ b ∧ b < (HH (j + 1)).next) → φn b = φ b := fun b h => by simp only [φn]; rw [if_neg h]
  have undone : ∀ b, (HH j).next ≤ b → b < (HH (j + 1)).next → φ b = none := I.nd j o ho hpj hjq hjL
  -- where the operation's own relation and the new one meet
  have meet : ∀ b, b < (HH (j + 1)).next → (HH (j + 1)).blk b ≠ none → φn b = φ' b := fun b hb hl => by
    by_cases h : (HH j).next ≤ b
    · exact new_eq b h hb
    · rw [old_eq b (fun h' => h h'.1), x.agree b (by omega) hl]
      simp only [show b < (HH j).next by omega, if_true]
  have up' : ∀ v u, VR φ' (HH (j + 1)) v u → VR φn (HH q) v u := fun v u h => h.mono l2.next fun b hb k2 hk2 => by
    rw [l2.blk b hb] at hk2
    exact ⟨k2, hk2, rfl, meet b hb (by rw [hk2]; simp)⟩
  have upo : ∀ v u, VR φ (HH q) v u → VR φn (HH q) v u := fun v u h => by
    have arx : ∀ a a', AR φ (HH q) a a' → AR φn (HH q) a a' := fun a a' h => ⟨h.spot, h.spot', h.off, h.lt, fun k hk => by
      obtain ⟨r, hr⟩ := h.map k hk
      refine ⟨r, ?_⟩
      rw [old_eq _ (fun h' => by rw [undone _ h'.1 h'.2] at hr; cases hr)]
      exact hr⟩
    induction h with
    | junk v => exact .junk v
    | bool b => exact .bool b
    | int k n => exact .int k n
    | string s => exact .string s
    | pnil => exact .pnil
    | ptr h => exact .ptr (arx _ _ h)
    | snil => exact .snil
    | emp a c => exact .emp a c
    | slice h hc hr =>
      exact .slice (arx _ _ h) hc fun k hk he => by
        obtain ⟨r, h1, h2⟩ := hr k hk he
        refine ⟨r, ?_, h2⟩
        rw [old_eq _ (fun h' => by rw [undone _ h'.1 h'.2] at h1; cases h1)]
        exact h1
    | func f xs ys xs' ys' hx hy _ _ rx ry => exact .func f xs ys xs' ys' hx hy rx ry
    | nilFunc => exact .nilFunc
    | nilIface => exact .nilIface
    | agg xs xs' hx _ rx => exact .agg xs xs' hx rx
    | tuple xs xs' hx _ rx => exact .tuple xs xs' hx rx
  have dead : ∀ b0 k0, b0 < (HH j).next → (HH j).blk b0 = some k0 → (HH (j + 1)).blk b0 = none → False := fun b0 k0 h1 h2 h3 => by
    rw [l1.blk b0 h1, h2] at h3; cases h3
  have freshn : ∀ b cb r, (HH j).next ≤ b → φ' b = some (cb, r) → w.heap.size ≤ cb := fun b cb r hb h => by
    rcases x.fresh b cb r hb h with h | ⟨b0, k0, r0, h1, h2, h3, h4, h5⟩
    · exact h
    · exact (dead b0 k0 h1 h3 h5).elim
  have simn : Sim φn (HH q) w' := {
    wf := I.sim.wf
    live := fun b y h => by
      by_cases hb : (HH j).next ≤ b ∧ b < (HH (j + 1)).next
      · rw [new_eq b hb.1 hb.2] at h
        rw [l2.blk b hb.2]
        exact x.sim.live b y h
      · rw [old_eq b hb] at h
        exact I.sim.live b y h
    inj := fun b c cb r r' h1 h2 => by
      by_cases hb : (HH j).next ≤ b ∧ b < (HH (j + 1)).next <;> by_cases hc : (HH j).next ≤ c ∧ c < (HH (j + 1)).next
      · rw [new_eq b hb.1 hb.2] at h1; rw [new_eq c hc.1 hc.2] at h2
        exact x.sim.inj b c cb r r' h1 h2
      · rw [new_eq b hb.1 hb.2] at h1; rw [old_eq c hc] at h2
        have := freshn b cb r hb.1 h1
        have := I.sim.lt h2
        omega
      · rw [old_eq b hb] at h1; rw [new_eq c hc.1 hc.2] at h2
        have := freshn c cb r' hc.1 h2
        have := I.sim.lt h1
        omega
      · rw [old_eq b hb] at h1; rw [old_eq c hc] at h2
        exact I.sim.inj b c cb r r' h1 h2
    cells := fun b k cb r hk hb => by
      by_cases hlt : b < (HH (j + 1)).next
      · rw [l2.blk b hlt] at hk
        rw [meet b hlt (by rw [hk]; simp)] at hb
        obtain ⟨arr, fz, g1, g2, g3, g4, g5⟩ := x.sim.cells b k cb r hk hb
        exact ⟨arr, fz, g1, g2, g3, g4, fun i v hv => let ⟨v', h1, h2⟩ := g5 i v hv; ⟨v', h1, up' _ _ h2⟩⟩
      · rw [old_eq b (fun h => hlt h.2)] at hb
        obtain ⟨arr, fz, g1, g2, g3, g4, g5⟩ := I.sim.cells b k cb r hk hb
        refine ⟨arr, fz, ?_, g2, g3, g4, fun i v hv => let ⟨v', h1, h2⟩ := g5 i v hv; ⟨v', h1, upo _ _ h2⟩⟩
        rw [x.frame cb (I.sim.lt hb) (fun b' k' r' h1 _ => by
          split at h1
          · have := I.sim.inj b' b cb r' r h1 hb
            omega
          · cases h1)]
        exact g1 }
  have extn : PExt φ0 (HH 0) w0 φn (HH q) w' := {
    next := I.ext.next
    back := I.ext.back
    agree := fun b hb hl => by
      have h0 : (HH 0).next ≤ (HH j).next := nx j (by have := I.qn; omega)
      rw [old_eq b (fun h => by omega)]
      exact I.ext.agree b hb hl
    fresh := fun b cb r hb h => by
      by_cases hn : (HH j).next ≤ b ∧ b < (HH (j + 1)).next
      · rw [new_eq b hn.1 hn.2] at h
        exact .inl (Nat.le_trans I.ext.size (freshn b cb r hn.1 h))
      · rw [old_eq b hn] at h
        exact I.ext.fresh b cb r hb h
    frame := fun cb hcb hro => by
      rw [x.frame cb (Nat.lt_of_lt_of_le hcb I.ext.size) ?_]
      · exact I.ext.frame cb hcb hro
      · intro b k r' hb hk
        split at hb
        · rename_i hlt
          have hkq : (HH q).blk b = some k := by rw [l0.blk b hlt]; exact hk
          by_cases h0 : b < (HH 0).next
          · obtain ⟨k0, g1, g2, _⟩ := I.ext.back b h0 k hkq
            rw [g2]
            exact hro b k0 r' (by rw [← I.ext.agree b h0 (by rw [hkq]; simp)]; exact hb) g1
          · rcases I.ext.fresh b cb r' (by omega) hb with h | ⟨b0, k0, r0, h1, h2, h3, h4, h5⟩
            · omega
            · rw [hro b0 k0 r0 h2 h3] at h4; cases h4
        · cases hb
    size := Nat.le_trans I.ext.size x.size
    os := x.os.trans I.ext.os
    tape := x.tape.trans I.ext.tape
    output := x.output.trans I.ext.output }
  refine ⟨φn, I.pq, I.qn, fun i o' h1 h2 h3 => .inl (I.done i o' h1 h2 h3), ?_, I.noE, I.atE, simn, ?_, ?_, ?_, ?_, extn, tm_step hdst hrun ho hjL hnt hlater I.tm upo (up' _ _ r)⟩
  · intro i o' h1 h2 h3 h4
    rcases h4 with h4 | h4
    · exact I.todo i o' h1 h2 h3 h4
    · omega
  · intro i b k hpi hiq hb hk v hv
    by_cases hn : (HH j).next ≤ b ∧ b < (HH (j + 1)).next
    · rw [new_eq b hn.1 hn.2] at hb
      have hij : j + 1 ≤ i := by
        rcases Nat.lt_or_ge j i with h | h
        · exact h
        · have := wf i (by have := I.qn; omega) b (by rw [hk]; simp)
          have := (le hpi h (by omega)).next
          omega
      have lji := le (i := j + 1) (k := i) (by omega) hij hiq
      rw [lji.blk b hn.2] at hk
      obtain ⟨⟨cb, r1⟩, hx⟩ := Option.ne_none_iff_exists'.1 hb
      obtain ⟨arr, fz, _, _, _, _, g⟩ := x.sim.cells b k cb r1 hk hx
      obtain ⟨m, hm, rfl⟩ := List.mem_iff_getElem.1 hv
      obtain ⟨v', _, g2⟩ := g m _ (List.getElem?_eq_getElem hm)
      exact ⟨φ', HH (j + 1), v', lji.next, g2⟩
    · rw [old_eq b hn] at hb
      exact I.sc i b k hpi hiq hb hk v hv
  · intro i o' h1 h2 h3 h4 b hb1 hb2
    have hij : i ≠ j := fun h => h4 (.inr h)
    have hφ := I.nd i o' h1 h2 h3 (fun h => h4 (.inl h)) b hb1 hb2
    rw [old_eq b ?_]
    · exact hφ
    · rintro ⟨g1, g2⟩
      rcases Nat.lt_or_ge i j with h | h
      · have := (le (i := i + 1) (k := j) (by omega) (by omega) (by omega)).next
        omega
      · have := (le (i := j + 1) (k := i) (by omega) (by omega) (by omega)).next
        omega
  · intro b hb1 hb2 hb3
    have := (le (i := p) (k := j) (Nat.le_refl _) hpj (by omega)).next
    rw [old_eq b (fun h => by omega)]
    exact I.mp b hb1 hb2 hb3
  · intro i o' h1 h2 h3 h4 b hb1 hb2 hb3
    by_cases hij : i = j
    · subst hij
      rw [new_eq b hb1 hb2]
      exact x.mapped b hb1 hb3
    · have h4 : L i := h4.elim id fun h => absurd h hij
      rw [old_eq b ?_]
      · exact I.mj i o' h1 h2 h3 h4 b hb1 hb2 hb3
      · rintro ⟨g1, g2⟩
        rcases Nat.lt_or_ge i j with h | h
        · have := (le (i := i + 1) (k := j) (by omega) (by omega) (by omega)).next
          omega
        · have := (le (i := j + 1) (k := i) (by omega) (by omega) (by omega)).next
          omega

/-- What writes memory comes when all ahead of it is done, and nothing behind it. -/
theorem inv_E (hdst : dstsOk nt ops.toList = true)
    (hrun : ∀ j o, ops.toList[j]? = some o → F (j + 1) = (F j).put o.dst (V j) ∧ RunAt P ops.toList o (F j) (HH j) (V j) (HH (j + 1)))
    (wf : ∀ i, i ≤ ops.size → ∀ b, (HH i).blk b ≠ none → b < (HH i).next)
    {φ0 : Phi} {w0 : World} {L : Nat → Prop} {a : Act} {w : World} {p q : Nat} {φ : Phi} (I : Inv ops nt F HH φ0 w0 L a w p q φ) (hnt : a.tmps.size = nt)
    {o : Oper} (ho : ops.toList[q]? = some o) (hjL : ¬ L q) (all : ∀ i o, ops.toList[i]? = some o → isFl o = false → p ≤ i → i < q → L i)
    (hlater : ∀ i o', ops.toList[i]? = some o' → q < i → L i → ∀ t, writesT o t = true → writesT o' t = false)
    {φ' : Phi} {w' : World} {cv : Value} (x : Ext φ (HH q) w φ' (HH (q + 1)) w') (r : VR φ' (HH (q + 1)) (V q) cv) :
    ∃ q', Inv ops nt F HH φ0 w0 (fun i => L i ∨ i = q) (a.put o.dst cv) w' (q + 1) q' φ' := by
  have hq : q < ops.size := by have := (List.getElem?_eq_some_iff.1 ho).1; simpa using this
  refine seg_start hrun wf (by omega) ?_ ?_ x.sim ?_ (I.ext.trans x) (tm_step hdst hrun ho hjL hnt hlater I.tm (fun v u h => h.ext x) r)
  · intro i o' h1 h2 h3
    by_cases hiq : i = q
    · exact .inr hiq
    · by_cases hip : i < p
      · exact .inl (I.done i o' h1 h2 hip)
      · exact .inl (all i o' h1 h2 (by omega) (by omega))
  · intro i o' h1 h2 h3 h4
    rcases h4 with h4 | h4
    · exact I.todo i o' h1 h2 (by omega) h4
    · omega
  · intro b hb0 hb hl
    by_cases h : (HH q).next ≤ b
    · exact x.mapped b h hl
    · obtain ⟨k', hk'⟩ := Option.ne_none_iff_exists'.1 hl
      obtain ⟨k, hk, _⟩ := x.back b (by omega) k' hk'
      rw [x.agree b (by omega) hl]
      exact seg_mapped hrun I all b hb0 (by omega) (by rw [hk]; simp)

/-! ### The game -/

def isIn (listed : Array Bool) (j : Nat) : Prop := listed.getD j false = true

theorem isIn_set {listed : Array Bool} {i : Nat} (hi : i < listed.size) : isIn (listed.setIfInBounds i true) = fun j => isIn listed j ∨ j = i := by
  funext j
  apply propext
  simp only [isIn, Array.getD_eq_getD_getElem?, Array.getElem?_setIfInBounds]
  by_cases h : i = j
  · subst h; simp [hi]
  · simp [h, show ¬ j = i from fun e => h e.symm]

def left (listed : Array Bool) : Nat := listed.toList.count false

theorem left_set {listed : Array Bool} {i : Nat} (hi : i < listed.size) (h : ¬ isIn listed i) : left (listed.setIfInBounds i true) + 1 = left listed := by
  have hv : listed.toList[i]'(by simpa using hi) = false := by
    simp only [isIn, Array.getD_eq_getD_getElem?, Array.getElem?_eq_getElem hi, Option.getD_some] at h
    simpa using h
  have hpos : 0 < listed.toList.count false := List.count_pos_iff.2 (by rw [← hv]; exact List.getElem_mem _)
  unfold left
  rw [Array.toList_setIfInBounds, List.count_set (by simpa using hi), hv]
  change listed.toList.count false - 1 + 0 + 1 = _
  omega

theorem left_zero {listed : Array Bool} (h : left listed = 0) (j : Nat) (hj : j < listed.size) : isIn listed j := by
  unfold left at h
  rw [List.count_eq_zero] at h
  simp only [isIn, Array.getD_eq_getD_getElem?, Array.getElem?_eq_getElem hj, Option.getD_some]
  cases hb : listed[j] with
  | true => rfl
  | false => exact absurd (by rw [← hb]; simp) h

def Closed (ops : Array Oper) (L : Nat → Prop) : Prop := ∀ j o, L j → ops.toList[j]? = some o → ∀ e ∈ o.after.toList, Region.binds .any e = true → L e.on

theorem mem_ready {listed : Array Bool} {i : Nat} (hsz : listed.size = ops.size) : i ∈ Region.ready .any ops listed ↔
    i < ops.size ∧ ¬ isIn listed i ∧ ∀ o, ops.toList[i]? = some o → ∀ e ∈ o.after.toList, Region.binds .any e = true → isIn listed e.on := by
  unfold Region.ready
  rw [List.mem_filter]
  simp only [List.mem_range, Bool.and_eq_true, isIn]
  constructor
  · rintro ⟨h1, h2, h3⟩
    refine ⟨h1, ?_, fun o ho e he hb => ?_⟩
    · rw [Array.getD_eq_getD_getElem?, Array.getElem?_eq_getElem (by omega)] at h2 ⊢
      simp at h2 ⊢
      exact h2
    · have ho' : ops[i]? = some o := by simpa using ho
      rw [ho'] at h3
      simp only [Option.map_some, Option.getD_some, Array.all_eq_true_iff_forall_mem] at h3
      have := h3 e (by simpa using he)
      simpa [hb] using this
  · rintro ⟨h1, h2, h3⟩
    refine ⟨h1, ?_, ?_⟩
    · rw [Array.getD_eq_getD_getElem?, Array.getElem?_eq_getElem (by omega)] at h2 ⊢
      simp at h2 ⊢
      exact h2
    · have ho : ops[i]? = some (ops[i]) := by simp [h1]
      rw [ho]
      simp only [Option.map_some, Option.getD_some, Array.all_eq_true_iff_forall_mem]
      intro e he
      have := h3 (ops[i]) (by simp) e (by simpa using he)
      cases hb : Region.binds .any e with
      | false => rfl
      | true => simpa [hb] using this hb

theorem none_ready {listed : Array Bool} (hsz : listed.size = ops.size) (hd : drawOkF ops.toList = true) (h : Region.ready .any ops listed = []) : ∀ j, j < ops.size → isIn listed j := by
  intro j
  induction j using Nat.strongRecOn with
  | _ j ih =>
    intro hj
    apply Classical.byContradiction
    intro hn
    have : j ∈ Region.ready .any ops listed := (mem_ready hsz).2 ⟨hj, hn, fun o ho e he hb => by
      have := drawOkF_edge hd ho he hb
      exact ih e.on this (by omega)⟩
    rw [h] at this
    cases this

theorem game (hd : drawOkF ops.toList = true) (hdst : dstsOk nt ops.toList = true)
    (hrun : ∀ j o, ops.toList[j]? = some o → F (j + 1) = (F j).put o.dst (V j) ∧ RunAt P ops.toList o (F j) (HH j) (V j) (HH (j + 1)))
    (wf : ∀ i, i ≤ ops.size → ∀ b, (HH i).blk b ≠ none → b < (HH i).next) (nx : ∀ i, i ≤ ops.size → (HH 0).next ≤ (HH i).next)
    (scF : ∀ i t, i ≤ ops.size → Sc (HH i).next (F i t))
    (hld : ∀ j o, ops.toList[j]? = some o → isLd o = true → ∀ i oi, j < i → ops.toList[i]? = some oi → isE oi.op = true → mayWait ops.toList (masks ops.toList) j i →
      denOp P o (aev (F j)) (fun v' H' => v' = V j ∧ H' = HH (i + 1)) (HH (i + 1))) {φ0 : Phi} {w0 : World} :
    ∀ (fuel : Nat) (listed : Array Bool) (a : Act) (w : World) (p q : Nat) (φ : Phi), left listed = fuel → listed.size = ops.size → Closed ops (isIn listed) → a.tmps.size = nt → a.defers = [] →
      Inv ops nt F HH φ0 w0 (isIn listed) a w p q φ →
      wpAny P .any ops (fun e' a' w' => e' = .normal ∧ a'.defers = [] ∧ a'.tmps.size = nt ∧ ∃ φ', Ext φ0 (HH 0) w0 φ' (HH ops.size) w' ∧ FR φ' (HH ops.size) (F ops.size) a'.tmps) fuel listed a w := by
  have fin : ∀ (listed : Array Bool) (a : Act) (w : World) (p q : Nat) (φ : Phi), listed.size = ops.size → a.tmps.size = nt → a.defers = [] →
      Inv ops nt F HH φ0 w0 (isIn listed) a w p q φ → (∀ j, j < ops.size → isIn listed j) →
      (.normal : Exit) = .normal ∧ a.defers = [] ∧ a.tmps.size = nt ∧ ∃ φ', Ext φ0 (HH 0) w0 φ' (HH ops.size) w ∧ FR φ' (HH ops.size) (F ops.size) a.tmps := by
    intro listed a w p q φ hsz hnt hdf I all
    have hq : q = ops.size := by
      have := I.qn
      rcases Nat.lt_or_ge q ops.size with h | h
      · exfalso
        have ho : ops.toList[q]? = some (ops[q]) := by simp [h]
        exact I.todo q _ ho (isE_pure (I.atE _ ho)) (Nat.le_refl _) (all q h)
      · omega
    subst hq
    refine ⟨rfl, hdf, hnt, φ, ⟨I.sim, I.ext.next, I.ext.back, I.ext.agree, fun b hb hl => ?_, I.ext.fresh, I.ext.frame, I.ext.size, I.ext.os, I.ext.tape, I.ext.output⟩, fun t => ?_⟩
    · exact seg_mapped hrun I (fun i o _ _ _ hi => all i hi) b hb (I.sim.wf b hl) hl
    · refine I.tm t _ (Nat.le_refl _) ⟨fun j o _ hj _ => all j hj, fun j o ho hj _ => ?_⟩
      have := (List.getElem?_eq_some_iff.1 ho).1
      simp at this
      omega
  intro fuel
  induction fuel with
  | zero =>
    intro listed a w p q φ hl hsz hcl hnt hdf I
    have all := fun j hj => left_zero hl j (by rw [hsz]; exact hj)
    refine ⟨?_, fin listed a w p q φ hsz hnt hdf I all⟩
    cases hr : Region.ready .any ops listed with
    | nil => rfl
    | cons i l =>
      have := (mem_ready (i := i) hsz).1 (by rw [hr]; simp)
      exact absurd (all i this.1) this.2.1
  | succ fuel ih =>
    intro listed a w p q φ hl hsz hcl hnt hdf I
    refine ⟨fun hr => fin listed a w p q φ hsz hnt hdf I (none_ready hsz hd hr), fun i hi => ?_⟩
    obtain ⟨hin, hiL, hie⟩ := (mem_ready hsz).1 hi
    have ho : ops.toList[i]? = some (ops[i]) := by simp [hin]
    have hisz : i < listed.size := by omega
    generalize hoo : ops[i] = o at ho
    have hset := isIn_set hisz
    have hcl' : Closed ops (isIn (listed.setIfInBounds i true)) := by
      rw [hset]
      intro j o' hj ho' e he hb
      rcases hj with hj | hj
      · exact .inl (hcl j o' hj ho' e he hb)
      · subst hj; exact .inl (hie o' ho' e he hb)
    -- what clashes and comes earlier is done
    have before : ∀ m om, ops.toList[m]? = some om → m < i → clashF ops.toList om o = true → isIn listed m := fun m om hm hmi hc => by
      have := masks_spec hcl' i (by rw [hset]; exact .inr rfl) m (drawOkF_clash hd hm ho hmi hc)
      rw [hset] at this
      exact this.elim id fun e => by omega
    have behind : ∀ m om, ops.toList[m]? = some om → i < m → clashF ops.toList o om = true → ¬ isIn listed m := fun m om hm him hc hL =>
      hiL (masks_spec hcl m hL i (drawOkF_clash hd ho hm him hc))
    have hlater : ∀ m o', ops.toList[m]? = some o' → i < m → isIn listed m → ∀ t, writesT o t = true → writesT o' t = false := fun m o' hm him hL t ht => by
      cases hw : writesT o' t with
      | false => rfl
      | true =>
        refine absurd hL (behind m o' hm him ?_)
        unfold writesT at hw
        cases hdd : o'.dst with
        | none => rw [hdd] at hw; cases hw
        | some d =>
          rw [hdd] at hw
          have := Nat.eq_of_beq_eq_true hw
          subst this
          simp [clashF, hdd, ht]
    have valid : ∀ t, t ∈ mentions ops.toList o → Valid ops (isIn listed) t i := fun t ht => by
      refine ⟨fun m om hm hmi hw => before m om hm hmi ?_, fun m om hm him hw hL => ?_⟩
      · have : (mentions ops.toList o).any (writesT om) = true := List.any_eq_true.2 ⟨t, ht, hw⟩
        simp [clashF, this]
      · by_cases e : m = i
        · subst e; exact hiL hL
        · refine behind m om hm (by omega) ?_ hL
          have : (mentions ops.toList o).any (writesT om) = true := List.any_eq_true.2 ⟨t, ht, hw⟩
          simp [clashF, this]
    have slots : ∀ t, t ∈ mentions ops.toList o → VR φ (HH q) (F i t) (a.tmps.getD t undef) := fun t ht => I.tm t i (by omega) (valid t ht)
    have opnd : ∀ x, x ∈ o.op.operands.toList → VR φ (HH q) (aev (F i) x) (a.eval x) := fun x hx => by
      cases x with
      | tmp t =>
        refine slots t (List.mem_append_left _ (List.mem_filterMap.2 ⟨_, hx, rfl⟩))
      | const v =>
        simp only [aev, cst, Act.eval]
        split
        · exact plainV_VR (by assumption)
        · exact .junk _
      | global g => exact .junk _
      | func f => exact .func f #[] #[] #[] #[] rfl rfl (fun i h => by simp at h) (fun i h => by simp at h)
    have grd : ∀ j want t, o.guard = some (j, want) → guardTmp ops.toList j = some t → VR φ (HH q) (F i t) (a.tmps.getD t undef) := fun j want t h1 h2 => by
      refine slots t (List.mem_append_right _ ?_)
      rw [h1]
      simp [h2]
    -- what comes behind the operation
    have go : ∀ (cv : Value) (w' : World) (p' q' : Nat) (φ' : Phi), Inv ops nt F HH φ0 w0 (fun m => isIn listed m ∨ m = i) (a.put o.dst cv) w' p' q' φ' →
        wpAny P .any ops (fun e' a' w' => e' = .normal ∧ a'.defers = [] ∧ a'.tmps.size = nt ∧ ∃ φ', Ext φ0 (HH 0) w0 φ' (HH ops.size) w' ∧ FR φ' (HH ops.size) (F ops.size) a'.tmps) fuel (listed.setIfInBounds i true) (a.put o.dst cv) w' := fun cv w' p' q' φ' J =>
      ih _ _ _ p' q' φ' (by have := left_set hisz hiL; omega) (by simp [hsz]) hcl' (by rw [put_size]; exact hnt) (by rw [put_defers]; exact hdf) (by rw [hset]; exact J)
    have ho2 : ops[i]? = some o := by simpa using ho
    unfold wpOp
    rw [ho2]
    simp only []
    obtain ⟨hF, hr⟩ := hrun i o ho
    cases hpu : isPure o.op with
    | true =>
      refine ((hr.pure hpu).2 (HH q)).wpOp I.sim opnd grd fun φ' w' cv x r => ?_
      exact go cv w' p q φ' (inv_float hdst hrun I hnt ho hiL (.inl hpu) hlater x r)
    | false =>
      by_cases hlate : isLd o = true ∧ i < p
      · -- a load that comes late
        obtain ⟨hl, hip⟩ := hlate
        have hqn := I.qn
        have hpq := I.pq
        -- the last write ahead of p
        have last : ∀ d, i + d < p → (∃ m om, i < m ∧ m ≤ i + d ∧ ops.toList[m]? = some om ∧ isE om.op = true ∧ ∀ m' o', ops.toList[m']? = some o' → m < m' → m' ≤ i + d → isE o'.op = false) ∨
            ∀ m' o', ops.toList[m']? = some o' → i < m' → m' ≤ i + d → isE o'.op = false := by
          intro d
          induction d with
          | zero => intro _; exact .inr fun m' o' _ h1 h2 => by omega
          | succ d ihd =>
            intro hd'
            have hm : ops.toList[i + (d + 1)]? = some (ops[i + (d + 1)]'(by omega)) := by simp
            cases hE : isE (ops[i + (d + 1)]'(by omega)).op with
            | true => exact .inl ⟨_, _, by omega, Nat.le_refl _, hm, hE, fun m' o' _ h1 h2 => by omega⟩
            | false =>
              rcases ihd (by omega) with ⟨m, om, h1, h2, h3, h4, h5⟩ | h
              · refine .inl ⟨m, om, h1, by omega, h3, h4, fun m' o' hm' h6 h7 => ?_⟩
                by_cases e : m' = i + (d + 1)
                · subst e; rw [hm] at hm'; cases hm'; exact hE
                · exact h5 m' o' hm' h6 (by omega)
              · refine .inr fun m' o' hm' h6 h7 => ?_
                by_cases e : m' = i + (d + 1)
                · subst e; rw [hm] at hm'; cases hm'; exact hE
                · exact h m' o' hm' h6 (by omega)
        have wait : ∀ m, m < p → mayWait ops.toList (masks ops.toList) i m := fun m hm i' o' hi' h1 h2 hE => by
          cases hb : ((masks ops.toList).getD i' 0).testBit i with
          | false => rfl
          | true =>
            have hdone : isIn listed i' := I.done i' o' hi' (by
              unfold isFl
              rw [isE_pure hE]
              cases hl' : isLd o' with
              | false => rfl
              | true => rw [isLd_E hl'] at hE; cases hE) (by omega)
            exact absurd (masks_spec hcl i' hdone i hb) hiL
        have at2 : denOp P o (aev (F i)) (fun v' H' => v' = V i ∧ H' = HH q) (HH q) := by
          rcases last (p - 1 - i) (by omega) with ⟨m, om, h1, h2, h3, h4, h5⟩ | h
          · have hc := hld i o ho hl m om h1 h3 h4 (wait m (by omega))
            refine denOp_ld_up hl (wf (m + 1) (by omega)) ?_ hc
            exact seg_le' hrun (p := m + 1) (q := q) hqn (fun i' o' hi' g1 g2 => by
              rcases Nat.lt_or_ge i' p with g | g
              · exact h5 i' o' hi' (by omega) (by omega)
              · exact I.noE i' o' hi' g g2) (Nat.le_refl _) (by omega) (Nat.le_refl _)
          · -- nothing has written since
            have hle : (HH i).Le (HH q) := seg_le' hrun (p := i) (q := q) hqn (fun i' o' hi' g1 g2 => by
              by_cases e : i' = i
              · subst e; rw [ho] at hi'; cases hi'; exact isLd_E hl
              · rcases Nat.lt_or_ge i' p with g | g
                · exact h i' o' hi' (by omega) (by omega)
                · exact I.noE i' o' hi' g g2) (Nat.le_refl _) (by omega) (Nat.le_refl _)
            exact hr.lds hl (HH q) hle (wf i (by omega))
        obtain ⟨v', H', ⟨rfl, rfl⟩, hs⟩ := denOp_sound at2
        have gs : GStep P ops.toList o (F i) (HH q) (V i) (HH q) := .inl ⟨hs, .inl (isLd_spec hl).1⟩
        refine gs.wpOp I.sim opnd grd fun φ' w' cv x r => ?_
        exact go cv w' p q φ' (inv_float hdst hrun I hnt ho hiL (.inr ⟨hl, by omega⟩) hlater x r)
      have hpi : p ≤ i := by
        rcases Nat.lt_or_ge i p with h | h
        · refine absurd (I.done i o ho ?_ h) hiL
          unfold isFl
          rw [hpu]
          cases hl : isLd o with
          | false => rfl
          | true => exact absurd ⟨hl, h⟩ hlate
        · exact h
      have hiq : i ≤ q := by
        rcases Nat.lt_or_ge q i with h | h
        · have hoq : ops.toList[q]? = some (ops[q]'(by omega)) := by simp
          refine absurd (before q _ hoq h ?_) (I.todo q _ hoq (isE_pure (I.atE _ hoq)) (Nat.le_refl _))
          simp [clashF, I.atE _ hoq, hpu]
        · exact h
      cases hE : isE o.op with
      | false =>
        have hlt : i < q := by
          rcases Nat.lt_or_ge i q with h | h
          · exact h
          · have e : i = q := by omega
            subst e
            rw [I.atE _ ho] at hE; cases hE
        have le0 : (HH i).Le (HH q) := seg_le' hrun I.qn I.noE hpi hiq (Nat.le_refl _)
        have dn : ∀ v u, Sc (HH i).next v → VR φ (HH q) v u → VR (fun b => if b < (HH i).next then φ b else none) (HH i) v u := fun v u hs hv =>
          hv.down hs fun b hb k1 hk1 => ⟨k1, by rw [le0.blk b hb]; exact hk1, rfl, by simp [hb]⟩
        have opnd' : ∀ x, x ∈ o.op.operands.toList → VR (fun b => if b < (HH i).next then φ b else none) (HH i) (aev (F i) x) (a.eval x) := fun x hx => by
          have h0 := opnd x hx
          cases x with
          | tmp t => exact dn _ _ (scF i t (by omega)) h0
          | const v =>
            simp only [aev, cst, Act.eval]
            split
            · exact plainV_VR (by assumption)
            · exact .junk _
          | global g => exact .junk _
          | func f => exact .func f #[] #[] #[] #[] rfl rfl (fun i h => by simp at h) (fun i h => by simp at h)
        refine hr.g.wpOp (I.sim.down le0 (wf i (by omega)) (fun b k hb hk => I.sc i b k hpi hiq hb hk)) opnd'
          (fun j want t h1 h2 => dn _ _ (scF i t (by omega)) (grd j want t h1 h2)) fun φ' w' cv x r => ?_
        obtain ⟨φn, J⟩ := inv_calm hdst hrun wf nx I hnt ho hiL hpi hlt hpu hlater x r
        exact go cv w' p q φn J
      | true =>
        have e : i = q := by
          rcases Nat.lt_or_ge i q with h | h
          · have := I.noE i o ho hpi h
            rw [hE] at this; cases this
          · omega
        subst e
        refine hr.g.wpOp I.sim opnd grd fun φ' w' cv x r => ?_
        obtain ⟨q', J⟩ := inv_E hdst hrun wf I hnt ho hiL (fun m om hm hmp _ hmi => before m om hm hmi (by unfold isFl at hmp; simp [clashF, hmp, hE])) hlater x r
        exact go cv w' _ q' φ' J

end region

/-- A region that is drawn, by a run in the text's order. -/
theorem drawn_sound {P : Program} {ops : Array Oper} {K : Frm → Heap → Prop} {id : Nat} (nt : Nat) (hm : P.follows .mixedOrders = true) (hd : drawOkF ops.toList = true) (hdst : dstsOk nt ops.toList = true)
    {fr : Frm} {H : Heap} {F : Nat → Frm} {HH : Nat → Heap} {V : Nat → Value} (h1 : F 0 = fr) (h2 : HH 0 = H) (h3 : K (F ops.toList.length) (HH ops.toList.length))
    (h4 : ∀ j o, 0 ≤ j → ops.toList[j]? = some o → F (j + 1) = (F j).put o.dst (V j) ∧ RunAt P ops.toList o (F j) (HH j) (V j) (HH (j + 1)))
    (hld : ∀ j o, ops.toList[j]? = some o → isLd o = true → ∀ i oi, j < i → ops.toList[i]? = some oi → isE oi.op = true → mayWait ops.toList (masks ops.toList) j i →
      denOp P o (aev (F j)) (fun v' H' => v' = V j ∧ H' = HH (i + 1)) (HH (i + 1))) :
    ∃ fr' H', K fr' H' ∧ (∀ t, opsDst ops.toList t = false → fr' t = fr t) ∧ CStep P (.region id ops true) nt fr H .normal fr' H' := by
  have hrun : ∀ j o, ops.toList[j]? = some o → F (j + 1) = (F j).put o.dst (V j) ∧ RunAt P ops.toList o (F j) (HH j) (V j) (HH (j + 1)) := fun j o ho => h4 j o (Nat.zero_le _) ho
  have hlen : ops.toList.length = ops.size := by simp
  rw [hlen] at h3
  refine ⟨F ops.size, HH ops.size, h3, fun t ht => ?_, fun φ w a s f hn hdf => ?_⟩
  · have := same_slot hrun t ops.size 0 (by omega) (fun j o ho _ _ => by
      unfold opsDst at ht
      rw [List.any_eq_false] at ht
      have := ht o (List.mem_of_getElem? ho)
      unfold writesT
      cases hdd : o.dst with
      | none => rfl
      | some d =>
        rw [hdd] at this
        simp only at this ⊢
        cases hb : Nat.beq d t with
        | false => rfl
        | true => exact absurd hb this)
    rw [Nat.zero_add, h1] at this
    exact this
  · have s0 : Sim φ (HH 0) w := by rw [h2]; exact s
    have f0 : FR φ (HH 0) (F 0) a.tmps := by rw [h1, h2]; exact f
    have tr := text_run hdst hrun s0 f0 hn
    have wf : ∀ i, i ≤ ops.size → ∀ b, (HH i).blk b ≠ none → b < (HH i).next := fun i hi => let ⟨_, _, _, s, _⟩ := tr i hi; s.wf
    have nx : ∀ i, i ≤ ops.size → (HH 0).next ≤ (HH i).next := fun i hi => let ⟨_, _, _, _, _, _, h⟩ := tr i hi; h
    have scF : ∀ i t, i ≤ ops.size → Sc (HH i).next (F i t) := fun i t hi => let ⟨φ, w, a, _, f, _⟩ := tr i hi; ⟨φ, HH i, _, Nat.le_refl _, f t⟩
    refine wp_region_any hm ?_
    have notIn : ∀ j, ¬ isIn (Array.replicate ops.size false) j := fun j h => by
      simp only [isIn, Array.getD_eq_getD_getElem?, Array.getElem?_replicate] at h
      split at h <;> simp at h
    have s1 := s0.drawn (w.drawn + 1)
    obtain ⟨q, I⟩ := seg_start (nt := nt) (P := P) (a := a) (φ0 := φ) (w0 := w) (L := isIn (Array.replicate ops.size false)) hrun wf (Nat.zero_le _) (fun i o _ _ h => by omega) (fun i o _ _ _ => notIn i) s1
      (fun b hb1 hb2 => by omega) (let x := Ext.refl s1; ⟨x.next, x.back, x.agree, x.fresh, x.frame, x.size, x.os, x.tape, x.output⟩) (fun t i hi hv => by
        have := same_slot hrun t i 0 (by omega) (fun j o ho _ hj => by
          cases hw : writesT o t with
          | false => rfl
          | true => exact absurd (hv.1 j o ho (by omega) hw) (notIn j))
        rw [Nat.zero_add] at this
        rw [this]
        exact f0 t)
    have g := game hd hdst hrun wf nx scF hld ops.size (Array.replicate ops.size false) a _ 0 q φ (by simp [left]) (by simp) (fun j o hj => absurd hj (notIn j)) hn hdf I
    rw [← h2]
    exact g

/-- A region that is drawn, by its text. -/
theorem denOpsQ_sound {P : Program} {ops : Array Oper} {K : Frm → Heap → Prop} {id : Nat} (nt : Nat) (hm : P.follows .mixedOrders = true) (hd : drawOk ops.toList = true) (hdst : dstsOk nt ops.toList = true)
    {fr : Frm} {H : Heap} (h : denOpsQ P ops.toList ops.toList K fr H) :
    ∃ fr' H', K fr' H' ∧ (∀ t, opsDst ops.toList t = false → fr' t = fr t) ∧ CStep P (.region id ops true) nt fr H .normal fr' H' := by
  obtain ⟨F, HH, V, h1, h2, h3, h4⟩ := denOpsQ_run ops.toList 0 fr H h (fun i => by simp) (by simp)
  refine drawn_sound nt hm (drawOk_F hd) hdst h1 h2 h3 h4 fun j o ho hl i oi hji hi hE hw => ?_
  have hc : clash ops.toList o oi = true := by simp [clash, isLd_pure hl, hE]
  have := drawOk_clash hd ho hi hji hc
  rw [hw i oi hi hji (Nat.le_refl _) hE] at this
  cases this

/-- The same where loads may come late. -/
theorem denOpsF_sound {P : Program} {ops : Array Oper} {K : Frm → Heap → Prop} {id : Nat} (nt : Nat) (hm : P.follows .mixedOrders = true) (hd : drawOkF ops.toList = true) (hdst : dstsOk nt ops.toList = true)
    {fr : Frm} {H : Heap} (h : denOpsF P ops.toList (masks ops.toList) ops.toList 0 [] K fr H) :
    ∃ fr' H', K fr' H' ∧ (∀ t, opsDst ops.toList t = false → fr' t = fr t) ∧ CStep P (.region id ops true) nt fr H .normal fr' H' := by
  obtain ⟨F, HH, V, h1, h2, h3, h4, _, h6⟩ := denOpsF_run ops.toList 0 [] fr H h (fun i => by simp) (by simp)
  exact drawn_sound nt hm hd hdst h1 h2 h3 h4 fun j o ho hl i oi hji hi hE hw => h6 j o (Nat.zero_le _) ho hl i oi hji hi hE hw

end Go.Ab
