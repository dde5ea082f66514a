/- Regions whose operations may come in any order that their edges allow: what each operation needs of the others. -/
import Derived.Test.YtdbdmlfnggbdiaaZabDen
import Derived.Orders
namespace Go.Ab

/-- Operations that neither read nor write memory. -/
def isPure : Op → Bool
  | .move _ | .assign _ | .pick .. | .binOp .. | .unOp .. | .nilCheck _ | .fieldAddr .. | .field .. | .indexAddr .. | .index .. | .extract .. | .makeFunc .. | .build .. => true
  | .call c => match c.callee with | .builtin .len | .builtin .cap | .builtin .max | .builtin .min => true | _ => false
  | _ => false

/-- Operations that write memory that was there. -/
def isE : Op → Bool
  | .store .. => true
  | .call c => match c.callee with | .builtin .len | .builtin .cap | .builtin .max | .builtin .min => false | .builtin _ => true | _ => false
  | _ => false

theorem isE_pure {o : Op} (h : isE o = true) : isPure o = false := by
  cases o <;> first | rfl | (simp [isE] at h; done) | skip
  rename_i c
  simp only [isE, isPure] at h ⊢
  cases hc : c.callee with
  | value f => rfl
  | invoke r m => rfl
  | builtin b => rw [hc] at h; cases b <;> first | rfl | (simp at h; done)

def isCallV : Op → Bool
  | .call c => match c.callee with | .value _ => true | _ => false
  | _ => false

section
variable {P : Program} {o : Oper} {ev : Operand → Value} {k : Post} {H : Heap}

theorem denOp_pure (hp : isPure o.op = true) (h : denOp P o ev k H) : ∃ v, k v H ∧ ∀ H2 k2, k2 v H2 → denOp P o ev k2 H2 := by
  unfold denOp at h ⊢
  split at h
  · exact ⟨_, h, fun _ _ h => h⟩
  · exact ⟨_, h, fun _ _ h => h⟩
  · unfold W.pick at h ⊢
    split at h
    · exact ⟨_, h, fun _ _ h => h⟩
    · exact h.elim
  · unfold denBin at h ⊢
    split at h
    · unfold W.eqNilR at h ⊢
      split at h
      · split at h
        · rename_i hv
          exact ⟨_, h, fun _ _ h => by first | exact h | (simp only [hv]; exact h)⟩
        · exact h.elim
      · exact h.elim
    · unfold W.eqBool at h ⊢
      split at h
      · split at h
        · rename_i hv
          exact ⟨_, h, fun _ _ h => by first | exact h | (simp only [hv]; exact h)⟩
        · exact h.elim
      · exact h.elim
    · rename_i h1 h2
      unfold W.bin at h ⊢
      split at h
      · rename_i hv
        exact ⟨_, h, fun _ _ h => by first | exact h | (simp only [hv]; exact h)⟩
      · exact h.elim
  · unfold W.un at h ⊢
    split at h
    · rename_i hv
      exact ⟨_, h, fun _ _ h => by first | exact h | (simp only [hv]; exact h)⟩
    · exact h.elim
  · rename_i e; rw [e] at hp; cases hp
  · rename_i e; rw [e] at hp; cases hp
  · rename_i e; rw [e] at hp; cases hp
  · rename_i e; rw [e] at hp; cases hp
  · rename_i e; rw [e] at hp; cases hp
  · unfold W.nilCheck at h ⊢
    split at h
    · exact ⟨_, h, fun _ _ h => h⟩
    · exact h.elim
  · split at h
    · split at h
      · rename_i hf
        split at h
        · rename_i hi
          split at h
          · rename_i hb
            unfold W.fieldAddr at h
            split at h
            · rename_i hq
              exact ⟨_, h, fun _ _ h => by first | exact h | (simp only [W.fieldAddr, hq]; exact h)⟩
            · exact h.elim
          · exact h.elim
        · exact h.elim
      · exact h.elim
    · exact h.elim
  · split at h
    · split at h
      · rename_i hf
        split at h
        · rename_i h1
          unfold W.field at h
          split at h
          · rename_i hq
            split at h
            · rename_i hv
              exact ⟨_, h, fun _ _ h => by first | exact h | (simp only [W.field, hq, hv]; exact h)⟩
            · exact h.elim
          · exact h.elim
        · rename_i h1 h2
          unfold W.fieldN at h
          split at h
          · rename_i hq
            exact ⟨_, h, fun _ _ h => by first | exact h | (simp only [W.fieldN, hq]; exact h)⟩
          · exact h.elim
        · exact h.elim
      · exact h.elim
    · exact h.elim
  · split at h
    · split at h
      · rename_i hi
        unfold W.indexAddr at h
        split at h
        · rename_i q1 q2
          obtain ⟨g1, g2, h⟩ := h
          exact ⟨_, h, fun _ _ h => by first | exact ⟨g1, g2, h⟩ | (simp only [W.indexAddr, q1, q2]; exact ⟨g1, g2, h⟩)⟩
        · exact h.elim
      · exact h.elim
    · split at h
      · rename_i hi
        unfold W.indexArr at h
        split at h
        · rename_i q1 q2
          obtain ⟨g1, g2, h⟩ := h
          exact ⟨_, h, fun _ _ h => by first | exact ⟨g1, g2, h⟩ | (simp only [W.indexArr, q1, q2]; exact ⟨g1, g2, h⟩)⟩
        · exact h.elim
      · exact h.elim
    · exact h.elim
  · split at h
    · unfold W.indexStr at h
      split at h
      · rename_i q1 q2
        obtain ⟨g1, h⟩ := h
        split at h
        · rename_i hb
          exact ⟨_, h, fun _ _ h => by first | exact ⟨g1, h⟩ | (simp only [W.indexStr, q1, q2, hb]; exact ⟨g1, h⟩)⟩
        · exact h.elim
      · exact h.elim
    · exact h.elim
  · rename_i e; rw [e] at hp; cases hp
  · unfold W.extract at h ⊢
    split at h
    · split at h
      · rename_i hv
        exact ⟨_, h, fun _ _ h => by first | exact h | (simp only [hv]; exact h)⟩
      · exact h.elim
    · exact h.elim
  · exact ⟨_, h, fun _ _ h => h⟩
  · rename_i e; rw [e] at hp; cases hp
  · split at h
    · rename_i hi
      split at h
      · rename_i hz
        split at h
        · rename_i hb
          unfold W.build at h
          split at h
          · rename_i hc
            exact ⟨_, h, fun _ _ h => by first | exact h | (simp only [W.build, hc]; exact h)⟩
          · exact h.elim
        · exact h.elim
      · exact h.elim
    · exact h.elim
  · rename_i e; rw [e] at hp; cases hp
  · rename_i c e
    rw [e] at hp
    simp only [isPure] at hp
    split at h
    · rename_i e1; rw [e1] at hp; cases hp
    · split at h
      · unfold W.len at h ⊢
        split at h
        · rename_i hq
          exact ⟨_, h, fun _ _ h => by first | exact h | (simp only [hq]; exact h)⟩
        · exact h.elim
      · unfold W.lenStr at h ⊢
        split at h
        · rename_i hq
          exact ⟨_, h, fun _ _ h => by first | exact h | (simp only [hq]; exact h)⟩
        · exact h.elim
      · exact h.elim
    · split at h
      · unfold W.cap at h ⊢
        split at h
        · rename_i hq
          obtain ⟨h0, h⟩ := h
          exact ⟨_, h, fun _ _ h => by first | exact ⟨h0, h⟩ | (simp only [hq]; exact ⟨h0, h⟩)⟩
        · exact h.elim
      · exact h.elim
    · unfold W.max2 at h ⊢
      split at h
      · rename_i q1 q2
        exact ⟨_, h, fun _ _ h => by first | exact h | (simp only [q1, q2]; exact h)⟩
      · exact h.elim
    · unfold W.min2 at h ⊢
      split at h
      · rename_i q1 q2
        exact ⟨_, h, fun _ _ h => by first | exact h | (simp only [q1, q2]; exact h)⟩
      · exact h.elim
    · rename_i e1 e2 e3; rw [e1] at hp; cases hp
    · exact h.elim
  · exact h.elim


/-- What reads memory, or makes some, leaves what was. -/
theorem denOp_calm (h1 : isPure o.op = false) (h2 : isE o.op = false) (h3 : isCallV o.op = false) (h : denOp P o ev k H) : denOp P o ev (fun v H' => H.Le H' ∧ k v H') H := by
  have al : ∀ (cells : List Value) (ty : TypeId) (esz : Nat), H.Le (H.alloc cells ty esz) := fun cells ty esz =>
    ⟨by simp [Heap.alloc], fun b hb => by simp only [Heap.alloc]; rw [if_neg (by omega)]⟩
  unfold denOp at h ⊢
  split at h
  · rename_i e; rw [e] at h1; cases h1
  · rename_i e; rw [e] at h1; cases h1
  · rename_i e; rw [e] at h1; cases h1
  · rename_i e; rw [e] at h1; cases h1
  · rename_i e; rw [e] at h1; cases h1
  · split at h
    · unfold W.conv at h ⊢
      split at h
      · exact ⟨.refl _, h⟩
      · exact h
    · exact h
  · split at h
    · split at h
      · split at h
        · exact ⟨al _ _ _, h⟩
        · exact h
      · exact h
    · exact h
  · unfold W.box at h ⊢
    split at h
    · exact ⟨al _ _ _, h⟩
    · exact ⟨h.1, al _ _ _, h.2⟩
  · split at h
    · unfold W.get at h ⊢
      split at h
      · split at h
        · exact ⟨.refl _, h⟩
        · exact h
      · exact h
    · unfold W.getN at h ⊢
      split at h
      · split at h
        · exact ⟨.refl _, h⟩
        · exact h
      · exact h
    · exact h
  · rename_i e; rw [e] at h2; cases h2
  · rename_i e; rw [e] at h1; cases h1
  · rename_i e; rw [e] at h1; cases h1
  · rename_i e; rw [e] at h1; cases h1
  · rename_i e; rw [e] at h1; cases h1
  · rename_i e; rw [e] at h1; cases h1
  · split at h
    · split at h
      · unfold W.slice at h ⊢
        split at h
        · split at h
          · obtain ⟨g1, g2, g3, h⟩ := h
            refine ⟨g1, g2, g3, ?_⟩
            split at h
            · exact ⟨.refl _, h⟩
            · split at h
              · rename_i c1
                rw [if_pos c1]
                split at h
                · rename_i c2; rw [if_pos c2]; exact ⟨.refl _, h⟩
                · rename_i c2; rw [if_neg c2]; exact ⟨.refl _, h⟩
              · rename_i c1
                rw [if_neg c1]
                split at h
                · rename_i c2; rw [if_pos c2]; exact ⟨.refl _, h⟩
                · rename_i c2; rw [if_neg c2]; exact ⟨h.1, .refl _, h.2⟩
          · exact h
        · exact h
      · exact h
    · split at h
      · unfold W.slice3 at h ⊢
        split at h
        · obtain ⟨g1, g2, g3, g4, h⟩ := h
          refine ⟨g1, g2, g3, g4, ?_⟩
          split at h
          · exact ⟨h.1, .refl _, h.2⟩
          · split at h
            · rename_i c1; rw [if_pos c1]; exact ⟨.refl _, h⟩
            · rename_i c1; rw [if_neg c1]; exact ⟨.refl _, h⟩
        · exact h
      · exact h
    · unfold W.sliceStr at h ⊢
      split at h
      · split at h
        · obtain ⟨g1, g2, g3, h⟩ := h
          exact ⟨g1, g2, g3, .refl _, h⟩
        · exact h
      · exact h
    · exact h
  · rename_i e; rw [e] at h1; cases h1
  · rename_i e; rw [e] at h1; cases h1
  · split at h
    · split at h
      · split at h
        · split at h
          · unfold W.make at h ⊢
            split at h
            · obtain ⟨g1, g2, g3, h⟩ := h
              exact ⟨g1, g2, g3, al _ _ _, h⟩
            · exact h
          · exact h
        · exact h
      · exact h
    · exact h
  · rename_i e; rw [e] at h1; cases h1
  · split at h
    · split at h
      · split at h
        · split at h
          · unfold W.lit at h ⊢
            split at h
            · exact ⟨al _ _ _, h⟩
            · exact h
          · exact h
        · exact h
      · exact h
    · exact h
  · rename_i c e
    rw [e] at h2 h3
    simp only [isE, isCallV] at h2 h3
    cases hc : c.callee with
    | value f => rw [hc] at h3; cases h3
    | builtin b => rw [e] at h1; simp only [isPure] at h1; rw [hc] at h1 h2; cases b <;> first | (simp at h1; done) | (simp at h2; done)
    | invoke r m => simp [hc] at h
  · exact h.elim


/-- A load that no guard keeps. -/
def isLd (o : Oper) : Bool := match o.guard with | none => (match o.op with | .load .. => true | _ => false) | some _ => false

theorem isLd_spec (h : isLd o = true) : o.guard = none ∧ ∃ t p, o.op = .load t p := by
  unfold isLd at h
  split at h
  · rename_i hg
    split at h
    · rename_i t p e; exact ⟨hg, t, p, e⟩
    · cases h
  · cases h

theorem isLd_pure (h : isLd o = true) : isPure o.op = false := by obtain ⟨_, t, p, e⟩ := isLd_spec h; rw [e]; rfl
theorem isLd_E (h : isLd o = true) : isE o.op = false := by obtain ⟨_, t, p, e⟩ := isLd_spec h; rw [e]; rfl
theorem isLd_call (h : isLd o = true) : isCallV o.op = false := by obtain ⟨_, t, p, e⟩ := isLd_spec h; rw [e]; rfl

theorem denOp_ld1 (hl : isLd o = true) (h : denOp P o ev k H) : ∃ v, k v H ∧ denOp P o ev (fun v' H' => v' = v ∧ H' = H) H := by
  obtain ⟨_, t, p, e⟩ := isLd_spec hl
  unfold denOp at h ⊢
  rw [e] at h ⊢
  simp only at h ⊢
  split at h
  · unfold W.get at h ⊢
    split at h
    · split at h
      · rename_i hv
        exact ⟨_, h, by simp only [hv]; exact ⟨trivial, trivial⟩⟩
      · exact h.elim
    · exact h.elim
  · unfold W.getN at h ⊢
    split at h
    · split at h
      · rename_i hv
        exact ⟨_, h, by simp only [hv]; exact ⟨trivial, trivial⟩⟩
      · exact h.elim
    · exact h.elim
  · exact h.elim

/-- What is loaded still is there when more has been made. -/
theorem denOp_ld_up (hl : isLd o = true) {H2 : Heap} (wf : ∀ b, H.blk b ≠ none → b < H.next) (l : H.Le H2) {v : Value} (h : denOp P o ev (fun v' H' => v' = v ∧ H' = H) H) : denOp P o ev (fun v' H' => v' = v ∧ H' = H2) H2 := by
  obtain ⟨_, t, p, e⟩ := isLd_spec hl
  have up : ∀ b k, H.blk b = some k → H2.blk b = some k := fun b k hk => by rw [l.blk b (wf b (by rw [hk]; simp))]; exact hk
  unfold denOp at h ⊢
  rw [e] at h ⊢
  simp only at h ⊢
  split at h
  · unfold W.get at h ⊢
    split at h
    · rename_i a _
      split at h
      · rename_i v1 hv
        have : H2.get a = some v1 := by
          unfold Heap.get at hv ⊢
          rw [Option.bind_eq_some_iff] at hv ⊢
          obtain ⟨kb, h1, h2⟩ := hv
          exact ⟨kb, up _ _ h1, h2⟩
        simp only [this]
        simpa using h.1
      · exact h.elim
    · exact h.elim
  · rename_i i _ _
    unfold W.getN at h ⊢
    split at h
    · rename_i a _
      split at h
      · rename_i v1 hv
        have : H2.getN a i.size = some v1 := by
          unfold Heap.getN at hv ⊢
          rw [Option.bind_eq_some_iff] at hv ⊢
          obtain ⟨kb, h1, h2⟩ := hv
          exact ⟨kb, up _ _ h1, h2⟩
        simp only [this]
        simpa using h.1
      · exact h.elim
    · exact h.elim
  · exact h.elim

/-! ### The text of such a region: as of any other, but a call must leave what was -/

def denOpQ (P : Program) (o : Oper) (ev : Operand → Value) (k : Post) (H : Heap) : Prop :=
  match isCallV o.op with
  | true => denOp P o ev (fun v H' => H.Le H' ∧ k v H') H
  | false => denOp P o ev k H

def denGuardedQ (P : Program) (ops : List Oper) (o : Oper) (fr : Frm) (k : Post) (H : Heap) : Prop :=
  match o.guard with
  | none => denOpQ P o (aev fr) k H
  | some (j, want) =>
    match guardTmp ops j with
    | some t => W.guarded (fr t) want (fun H k => denOpQ P o (aev fr) k H) H k
    | none => False

def denOpsQ (P : Program) (ops : List Oper) : List Oper → (Frm → Heap → Prop) → Frm → Heap → Prop
  | [], K, fr, H => K fr H
  | o :: rest, K, fr, H => denGuardedQ P ops o fr (fun v H' => denOpsQ P ops rest K (fr.put o.dst v) H') H

/-- A call that leaves what was. -/
def W.callQ (P : Program) (f : Value) (args : Array Value) (H : Heap) (k : Post) : Prop := W.call P f args H (fun v H' => H.Le H' ∧ k v H')

/-- What one operation of the region does, in the text's order. -/
structure RunAt (P : Program) (ops : List Oper) (o : Oper) (fr : Frm) (H : Heap) (v : Value) (H' : Heap) : Prop where
  g : GStep P ops o fr H v H'
  calm : isE o.op = false → H.Le H'
  pure : isPure o.op = true → H' = H ∧ ∀ H2, GStep P ops o fr H2 v H2
  ld : isLd o = true → H' = H
  lds : isLd o = true → ∀ H2, H.Le H2 → (∀ b, H.blk b ≠ none → b < H.next) → denOp P o (aev fr) (fun v' H' => v' = v ∧ H' = H2) H2

theorem denOpQ_sound (h : denOpQ P o ev k H) : ∃ v H', k v H' ∧ OpStep P o ev H v H' ∧ (isE o.op = false → H.Le H') ∧ (isPure o.op = true → H' = H ∧ ∀ H2, OpStep P o ev H2 v H2) ∧ (isLd o = true → H' = H ∧ ∀ H2, H.Le H2 → (∀ b, H.blk b ≠ none → b < H.next) → denOp P o ev (fun v' H' => v' = v ∧ H' = H2) H2) := by
  unfold denOpQ at h
  split at h
  · rename_i hc
    obtain ⟨v, H', ⟨hle, hk⟩, hs⟩ := denOp_sound h
    refine ⟨v, H', hk, hs, fun _ => hle, fun hp => ?_, fun hl => by rw [isLd_call hl] at hc; cases hc⟩
    cases ho : o.op <;> rw [ho] at hc hp <;> simp [isCallV, isPure] at hc hp
    rename_i c
    cases hcc : c.callee <;> rw [hcc] at hc hp <;> simp at hc hp
  · rename_i hc
    cases hp : isPure o.op with
    | true =>
      obtain ⟨v, hk, hall⟩ := denOp_pure hp h
      have at2 : ∀ H2, OpStep P o ev H2 v H2 := fun H2 => by
        obtain ⟨v', H', ⟨rfl, rfl⟩, hs⟩ := denOp_sound (hall H2 (fun v' H' => v' = v ∧ H' = H2) ⟨rfl, rfl⟩)
        exact hs
      exact ⟨v, H, hk, at2 H, fun _ => .refl _, fun _ => ⟨rfl, at2⟩, fun hl => by rw [isLd_pure hl] at hp; cases hp⟩
    | false =>
      cases hE : isE o.op with
      | true =>
        obtain ⟨v, H', hk, hs⟩ := denOp_sound h
        exact ⟨v, H', hk, hs, fun h => Bool.noConfusion h, fun h => Bool.noConfusion h, fun hl => by rw [isLd_E hl] at hE; cases hE⟩
      | false =>
        cases hl : isLd o with
        | true =>
          obtain ⟨v, hk, hv⟩ := denOp_ld1 hl h
          obtain ⟨v', H', ⟨rfl, rfl⟩, hs⟩ := denOp_sound hv
          exact ⟨_, _, hk, hs, fun _ => .refl _, fun h => Bool.noConfusion h, fun _ => ⟨rfl, fun H2 l wf => denOp_ld_up hl wf l hv⟩⟩
        | false =>
          obtain ⟨v, H', ⟨hle, hk⟩, hs⟩ := denOp_sound (denOp_calm hp hE hc h)
          exact ⟨v, H', hk, hs, fun _ => hle, fun h => Bool.noConfusion h, fun h => Bool.noConfusion h⟩

theorem denGuardedQ_sound {ops : List Oper} {fr : Frm} (h : denGuardedQ P ops o fr k H) : ∃ v H', k v H' ∧ RunAt P ops o fr H v H' := by
  unfold denGuardedQ at h
  split at h
  · rename_i hg
    obtain ⟨v, H', hk, hs, h1, h2, h3⟩ := denOpQ_sound h
    exact ⟨v, H', hk, .inl ⟨hs, .inl hg⟩, h1, fun hp => ⟨(h2 hp).1, fun H2 => .inl ⟨(h2 hp).2 H2, .inl hg⟩⟩, fun hl => (h3 hl).1, fun hl => (h3 hl).2⟩
  · rename_i j want hg
    split at h
    · rename_i t ht
      unfold W.guarded at h
      split at h
      · rename_i b hb
        split at h
        · rename_i hw
          have hb' : fr t = .bool want := by rw [hb, beq_iff_eq.1 hw]
          obtain ⟨v, H', hk, hs, h1, h2, h3⟩ := denOpQ_sound h
          exact ⟨v, H', hk, .inl ⟨hs, .inr ⟨j, want, t, hg, ht, hb'⟩⟩, h1, fun hp => ⟨(h2 hp).1, fun H2 => .inl ⟨(h2 hp).2 H2, .inr ⟨j, want, t, hg, ht, hb'⟩⟩⟩, fun hl => (h3 hl).1, fun hl => (h3 hl).2⟩
        · rename_i hw
          exact ⟨_, _, h, .inr ⟨rfl, rfl, j, want, t, b, hg, ht, hb, hw⟩, fun _ => .refl _, fun _ => ⟨rfl, fun H2 => .inr ⟨rfl, rfl, j, want, t, b, hg, ht, hb, hw⟩⟩, fun _ => rfl, fun hl => by rw [(isLd_spec hl).1] at hg; cases hg⟩
      · exact h.elim
    · exact h.elim

/-- The whole run in the text's order: frames, heaps, values. -/
theorem denOpsQ_run {ops : List Oper} {K : Frm → Heap → Prop} : ∀ (l : List Oper) (m : Nat) (fr : Frm) (H : Heap), denOpsQ P ops l K fr H → (∀ i, l[i]? = ops[m + i]?) → m + l.length = ops.length →
    ∃ (F : Nat → Frm) (HH : Nat → Heap) (V : Nat → Value), F m = fr ∧ HH m = H ∧ K (F ops.length) (HH ops.length) ∧
      ∀ j o, m ≤ j → ops[j]? = some o → F (j + 1) = (F j).put o.dst (V j) ∧ RunAt P ops o (F j) (HH j) (V j) (HH (j + 1))
  | [], m, fr, H, h, _, hl => by
    simp only [List.length_nil, Nat.add_zero] at hl
    refine ⟨fun _ => fr, fun _ => H, fun _ => undef, rfl, rfl, h, fun j o hj ho => ?_⟩
    rw [List.getElem?_eq_none (by omega)] at ho
    cases ho
  | o :: rest, m, fr, H, h, hi, hl => by
    simp only [denOpsQ] at h
    obtain ⟨v, H1, hk, hr⟩ := denGuardedQ_sound h
    obtain ⟨F, HH, V, h1, h2, h3, h4⟩ := denOpsQ_run rest (m + 1) _ _ hk (fun i => by have := hi (i + 1); simpa [Nat.add_assoc, Nat.add_comm 1 i] using this) (by simp at hl; omega)
    have h0 : ops[m]? = some o := by simpa using (hi 0).symm
    refine ⟨fun j => if j = m then fr else F j, fun j => if j = m then H else HH j, fun j => if j = m then v else V j, by simp, by simp, ?_, fun j o' hj ho => ?_⟩
    · have : ¬ ops.length = m := by simp at hl; omega
      simpa [this] using h3
    · by_cases hjm : j = m
      · subst hjm
        rw [h0] at ho
        cases ho
        simp only [if_true, if_neg (Nat.succ_ne_self j)]
        rw [h1, h2]
        exact ⟨rfl, hr⟩
      · have := h4 j o' (by omega) ho
        simp only [if_neg hjm, if_neg (show ¬ j + 1 = m by omega)]
        exact this

/-! ### What must come ahead of what -/

def maskOf (acc : List Nat) (es : List Edge) (s : Nat) : Nat :=
  es.foldl (fun s e => match Region.binds .any e with | true => s ||| 2 ^ e.on ||| acc.getD e.on 0 | false => s) s

def masksOn (acc : List Nat) : List Oper → List Nat
  | [] => acc
  | o :: rest => masksOn (acc ++ [maskOf acc o.after.toList 0]) rest

def masks (ops : List Oper) : List Nat := masksOn [] ops

theorem maskOf_spec {L : Nat → Prop} {acc : List Nat} (hacc : ∀ m, L m → ∀ i, (acc.getD m 0).testBit i = true → L i) : ∀ (es : List Edge) (s : Nat), (∀ e ∈ es, Region.binds .any e = true → L e.on) →
    (∀ i, s.testBit i = true → L i) → ∀ i, (maskOf acc es s).testBit i = true → L i
  | [], s, _, hs, i, hi => hs i hi
  | e :: es, s, he, hs, i, hi => by
    simp only [maskOf, List.foldl_cons] at hi
    refine maskOf_spec hacc es _ (fun e' h' => he e' (List.mem_cons_of_mem _ h')) ?_ i hi
    intro i hi
    split at hi
    · rename_i hb
      simp only [Nat.testBit_or, Bool.or_eq_true] at hi
      rcases hi with (hi | hi) | hi
      · exact hs i hi
      · rw [Nat.testBit_two_pow] at hi
        have : e.on = i := by simpa using hi
        exact this ▸ he e List.mem_cons_self hb
      · exact hacc _ (he e List.mem_cons_self hb) i hi
    · exact hs i hi

theorem masksOn_spec {L : Nat → Prop} {ops : List Oper} (hL : ∀ j o, L j → ops[j]? = some o → ∀ e ∈ o.after.toList, Region.binds .any e = true → L e.on) :
    ∀ (rest : List Oper) (acc : List Nat), (∀ i, rest[i]? = ops[acc.length + i]?) → (∀ m, L m → ∀ i, (acc.getD m 0).testBit i = true → L i) →
      ∀ m, L m → ∀ i, ((masksOn acc rest).getD m 0).testBit i = true → L i
  | [], acc, _, hacc => hacc
  | o :: rest, acc, hr, hacc => by
    refine masksOn_spec hL rest _ (fun i => by have := hr (i + 1); simpa [Nat.add_assoc, Nat.add_comm 1 i] using this) ?_
    intro m hm i hi
    by_cases h : m < acc.length
    · rw [List.getD_eq_getElem?_getD, List.getElem?_append_left h, ← List.getD_eq_getElem?_getD] at hi
      exact hacc m hm i hi
    · rw [List.getD_eq_getElem?_getD, List.getElem?_append_right (by omega)] at hi
      by_cases h2 : m = acc.length
      · subst h2
        simp only [Nat.sub_self, List.getElem?_cons_zero, Option.getD_some] at hi
        refine maskOf_spec hacc _ 0 (fun e he hb => ?_) (fun i hi => by simp at hi) i hi
        have h0 := hr 0
        simp only [List.getElem?_cons_zero, Nat.add_zero] at h0
        exact hL acc.length o hm h0.symm e he hb
      · rw [List.getElem?_eq_none (by simp; omega)] at hi
        simp at hi

theorem masks_spec {L : Nat → Prop} {ops : List Oper} (hL : ∀ j o, L j → ops[j]? = some o → ∀ e ∈ o.after.toList, Region.binds .any e = true → L e.on) :
    ∀ m, L m → ∀ i, ((masks ops).getD m 0).testBit i = true → L i :=
  masksOn_spec hL ops [] (fun i => by simp) (fun m _ i hi => by simp at hi)

/-- Slots that an operation looks at. -/
def mentions (ops : List Oper) (o : Oper) : List Tmp :=
  (o.op.operands.toList.filterMap fun x => match x with | .tmp t => some t | _ => none) ++ (match o.guard with | some (j, _) => (match guardTmp ops j with | some t => [t] | none => []) | none => [])

def writesT (o : Oper) (t : Tmp) : Bool := match o.dst with | some d => Nat.beq d t | none => false

/-- Two operations that must keep their order. -/
def clash (ops : List Oper) (x y : Oper) : Bool :=
  (mentions ops y).any (writesT x) || (mentions ops x).any (writesT y) || (match y.dst with | some d => writesT x d | none => false) ||
  (isE x.op && !isPure y.op) || (!isPure x.op && isE y.op)

def orderOk (ops : List Oper) (ms : List Nat) : Bool :=
  (ops.zipIdx.all fun p => p.1.after.toList.all fun e => !Region.binds .any e || Nat.blt e.on p.2) &&
  (ops.zipIdx.all fun p => (ops.take p.2).zipIdx.all fun q => !clash ops q.1 p.1 || (ms.getD p.2 0).testBit q.2)

def drawOk (ops : List Oper) : Bool := orderOk ops (masks ops)

theorem drawOk_edge {ops : List Oper} (h : drawOk ops = true) {j : Nat} {o : Oper} (ho : ops[j]? = some o) {e : Edge} (he : e ∈ o.after.toList) (hb : Region.binds .any e = true) : e.on < j := by
  simp only [drawOk, orderOk, Bool.and_eq_true, List.all_eq_true] at h
  have := h.1 (o, j) (by rw [List.mem_zipIdx_iff_getElem?]; exact ho)
  have := this e he
  simp only [hb, Bool.not_true, Bool.false_or] at this
  exact Nat.le_of_ble_eq_true this

theorem drawOk_clash {ops : List Oper} (h : drawOk ops = true) {i j : Nat} {oi oj : Oper} (hi : ops[i]? = some oi) (hj : ops[j]? = some oj) (hij : i < j) (hc : clash ops oi oj = true) :
    ((masks ops).getD j 0).testBit i = true := by
  simp only [drawOk, orderOk, Bool.and_eq_true, List.all_eq_true] at h
  have := h.2 (oj, j) (by rw [List.mem_zipIdx_iff_getElem?]; exact hj)
  have := this (oi, i) (by rw [List.mem_zipIdx_iff_getElem?]; simp only [List.getElem?_take, if_pos hij]; exact hi)
  simpa [hc] using this

/-- The same, but a load may come behind a write that follows it in the text. -/
def clashF (ops : List Oper) (x y : Oper) : Bool :=
  (mentions ops y).any (writesT x) || (mentions ops x).any (writesT y) || (match y.dst with | some d => writesT x d | none => false) ||
  (isE x.op && !isPure y.op) || (!(isPure x.op || isLd x) && isE y.op)

theorem clashF_clash {ops : List Oper} {x y : Oper} (h : clashF ops x y = true) : clash ops x y = true := by
  unfold clashF at h
  unfold clash
  cases h1 : (mentions ops y).any (writesT x) <;> cases h2 : (mentions ops x).any (writesT y) <;> cases h3 : (match y.dst with | some d => writesT x d | none => false) <;> cases h4 : (isE x.op && !isPure y.op) <;>
    simp only [h1, h2, h3, h4, Bool.or_true, Bool.true_or, Bool.or_false, Bool.false_or] at h ⊢
  cases hp : isPure x.op <;> cases hl : isLd x <;> simp_all

def orderOkF (ops : List Oper) (ms : List Nat) : Bool :=
  (ops.zipIdx.all fun p => p.1.after.toList.all fun e => !Region.binds .any e || Nat.blt e.on p.2) &&
  (ops.zipIdx.all fun p => (ops.take p.2).zipIdx.all fun q => !clashF ops q.1 p.1 || (ms.getD p.2 0).testBit q.2)

def drawOkF (ops : List Oper) : Bool := orderOkF ops (masks ops)

theorem drawOkF_edge {ops : List Oper} (h : drawOkF ops = true) {j : Nat} {o : Oper} (ho : ops[j]? = some o) {e : Edge} (he : e ∈ o.after.toList) (hb : Region.binds .any e = true) : e.on < j := by
  simp only [drawOkF, orderOkF, Bool.and_eq_true, List.all_eq_true] at h
  have := h.1 (o, j) (by rw [List.mem_zipIdx_iff_getElem?]; exact ho)
  have := this e he
  simp only [hb, Bool.not_true, Bool.false_or] at this
  exact Nat.le_of_ble_eq_true this

theorem drawOkF_clash {ops : List Oper} (h : drawOkF ops = true) {i j : Nat} {oi oj : Oper} (hi : ops[i]? = some oi) (hj : ops[j]? = some oj) (hij : i < j) (hc : clashF ops oi oj = true) :
    ((masks ops).getD j 0).testBit i = true := by
  simp only [drawOkF, orderOkF, Bool.and_eq_true, List.all_eq_true] at h
  have := h.2 (oj, j) (by rw [List.mem_zipIdx_iff_getElem?]; exact hj)
  have := this (oi, i) (by rw [List.mem_zipIdx_iff_getElem?]; simp only [List.getElem?_take, if_pos hij]; exact hi)
  simpa [hc] using this

theorem drawOk_F {ops : List Oper} (h : drawOk ops = true) : drawOkF ops = true := by
  simp only [drawOk, orderOk, Bool.and_eq_true, List.all_eq_true] at h
  simp only [drawOkF, orderOkF, Bool.and_eq_true, List.all_eq_true]
  refine ⟨h.1, fun p hp q hq => ?_⟩
  have := h.2 p hp q hq
  cases hc : clashF ops q.1 p.1 with
  | false => rfl
  | true => rw [clashF_clash hc] at this; simpa using this

/-- A load once more: what it gave it gives here too. -/
def W.chk (g : Heap → Post → Prop) (v : Value) (H : Heap) (rest : Prop) : Prop := g H (fun v' H' => v' = v ∧ H' = H) ∧ rest

/-- A load that may still come: its number, the frame where it stands in the text, the operation, its value. -/
structure Pend where
  at_ : Nat
  op : Oper
  fr : Frm
  v : Value

def dropP (m : Nat) : List Pend → List Pend
  | [] => []
  | p :: r => match m.testBit p.at_ with | true => dropP m r | false => p :: dropP m r

def chks (P : Program) : List Pend → Heap → Prop → Prop
  | [], _, K => K
  | p :: r, H, K => W.chk (fun H k => denOp P p.op (aev p.fr) k H) p.v H (chks P r H K)

def denOpsF (P : Program) (ops : List Oper) (ms : List Nat) : List Oper → Nat → List Pend → (Frm → Heap → Prop) → Frm → Heap → Prop
  | [], _, _, K, fr, H => K fr H
  | o :: rest, i, pd, K, fr, H => denGuardedQ P ops o fr (fun v H' =>
      match isE o.op with
      | true => chks P (dropP (ms.getD i 0) pd) H' (denOpsF P ops ms rest (i + 1) (dropP (ms.getD i 0) pd) K (fr.put o.dst v) H')
      | false => match isLd o with
        | true => denOpsF P ops ms rest (i + 1) ({ at_ := i, op := o, fr := fr, v := v } :: pd) K (fr.put o.dst v) H'
        | false => denOpsF P ops ms rest (i + 1) pd K (fr.put o.dst v) H') H

theorem chks_spec : ∀ {l : List Pend} {H : Heap} {K : Prop}, chks P l H K → K ∧ ∀ p ∈ l, denOp P p.op (aev p.fr) (fun v' H' => v' = p.v ∧ H' = H) H
  | [], _, _, h => ⟨h, fun p hp => by cases hp⟩
  | q :: r, H, K, h => by
    obtain ⟨h1, h2⟩ := h
    obtain ⟨h3, h4⟩ := chks_spec h2
    refine ⟨h3, fun p hp => ?_⟩
    rcases List.mem_cons.1 hp with rfl | hp
    · exact h1
    · exact h4 p hp

theorem mem_dropP {m : Nat} {p : Pend} : ∀ {l : List Pend}, p ∈ dropP m l ↔ p ∈ l ∧ m.testBit p.at_ = false
  | [] => by simp [dropP]
  | q :: r => by
    unfold dropP
    split
    · rename_i hb
      rw [mem_dropP]
      constructor
      · rintro ⟨h1, h2⟩; exact ⟨List.mem_cons_of_mem _ h1, h2⟩
      · rintro ⟨h1, h2⟩
        rcases List.mem_cons.1 h1 with rfl | h1
        · rw [hb] at h2; cases h2
        · exact ⟨h1, h2⟩
    · rename_i hb
      rw [List.mem_cons, mem_dropP]
      constructor
      · rintro (rfl | ⟨h1, h2⟩)
        · exact ⟨List.mem_cons_self, hb⟩
        · exact ⟨List.mem_cons_of_mem _ h1, h2⟩
      · rintro ⟨h1, h2⟩
        rcases List.mem_cons.1 h1 with rfl | h1
        · exact .inl rfl
        · exact .inr ⟨h1, h2⟩

/-- A load may come behind the write at m, by the edges. -/
def mayWait (ops : List Oper) (ms : List Nat) (j m : Nat) : Prop := ∀ i o, ops[i]? = some o → j < i → i ≤ m → isE o.op = true → (ms.getD i 0).testBit j = false

theorem denOpsF_run {ops : List Oper} {ms : List Nat} {K : Frm → Heap → Prop} : ∀ (l : List Oper) (m : Nat) (pd : List Pend) (fr : Frm) (H : Heap), denOpsF P ops ms l m pd K fr H → (∀ i, l[i]? = ops[m + i]?) → m + l.length = ops.length →
    ∃ (F : Nat → Frm) (HH : Nat → Heap) (V : Nat → Value), F m = fr ∧ HH m = H ∧ K (F ops.length) (HH ops.length) ∧
      (∀ j o, m ≤ j → ops[j]? = some o → F (j + 1) = (F j).put o.dst (V j) ∧ RunAt P ops o (F j) (HH j) (V j) (HH (j + 1))) ∧
      (∀ p ∈ pd, p.at_ < m → ∀ i o, m ≤ i → ops[i]? = some o → isE o.op = true → (∀ i' o', ops[i']? = some o' → m ≤ i' → i' ≤ i → isE o'.op = true → (ms.getD i' 0).testBit p.at_ = false) →
        denOp P p.op (aev p.fr) (fun v' H' => v' = p.v ∧ H' = HH (i + 1)) (HH (i + 1))) ∧
      (∀ j o, m ≤ j → ops[j]? = some o → isLd o = true → ∀ i oi, j < i → ops[i]? = some oi → isE oi.op = true → mayWait ops ms j i →
        denOp P o (aev (F j)) (fun v' H' => v' = V j ∧ H' = HH (i + 1)) (HH (i + 1)))
  | [], m, pd, fr, H, h, _, hl => by
    simp only [List.length_nil, Nat.add_zero] at hl
    refine ⟨fun _ => fr, fun _ => H, fun _ => undef, rfl, rfl, h, fun j o hj ho => ?_, fun p _ _ i o hi ho => ?_, fun j o hj ho => ?_⟩
    · rw [List.getElem?_eq_none (by omega)] at ho; cases ho
    · rw [List.getElem?_eq_none (by omega)] at ho; cases ho
    · rw [List.getElem?_eq_none (by omega)] at ho; cases ho
  | o :: rest, m, pd, fr, H, h, hi, hl => by
    simp only [denOpsF] at h
    obtain ⟨v, H1, hk, hr⟩ := denGuardedQ_sound h
    have h0 : ops[m]? = some o := by simpa using (hi 0).symm
    have key : ∀ pd', denOpsF P ops ms rest (m + 1) pd' K (fr.put o.dst v) H1 →
        (∀ p ∈ pd, p.at_ < m → (isE o.op = true → (ms.getD m 0).testBit p.at_ = false) → p ∈ pd') →
        (∀ p ∈ pd, p.at_ < m → isE o.op = true → (ms.getD m 0).testBit p.at_ = false → denOp P p.op (aev p.fr) (fun v' H' => v' = p.v ∧ H' = H1) H1) →
        (isLd o = true → { at_ := m, op := o, fr := fr, v := v : Pend } ∈ pd') →
        ∃ (F : Nat → Frm) (HH : Nat → Heap) (V : Nat → Value), F m = fr ∧ HH m = H ∧ K (F ops.length) (HH ops.length) ∧
          (∀ j o, m ≤ j → ops[j]? = some o → F (j + 1) = (F j).put o.dst (V j) ∧ RunAt P ops o (F j) (HH j) (V j) (HH (j + 1))) ∧
          (∀ p ∈ pd, p.at_ < m → ∀ i o, m ≤ i → ops[i]? = some o → isE o.op = true → (∀ i' o', ops[i']? = some o' → m ≤ i' → i' ≤ i → isE o'.op = true → (ms.getD i' 0).testBit p.at_ = false) →
            denOp P p.op (aev p.fr) (fun v' H' => v' = p.v ∧ H' = HH (i + 1)) (HH (i + 1))) ∧
          (∀ j o, m ≤ j → ops[j]? = some o → isLd o = true → ∀ i oi, j < i → ops[i]? = some oi → isE oi.op = true → mayWait ops ms j i →
            denOp P o (aev (F j)) (fun v' H' => v' = V j ∧ H' = HH (i + 1)) (HH (i + 1))) := by
      intro pd' hk' hkeep hnow hnew
      obtain ⟨F, HH, V, h1, h2, h3, h4, h5, h6⟩ := denOpsF_run rest (m + 1) pd' _ _ hk' (fun i => by have := hi (i + 1); simpa [Nat.add_assoc, Nat.add_comm 1 i] using this) (by simp at hl; omega)
      refine ⟨fun j => if j = m then fr else F j, fun j => if j = m then H else HH j, fun j => if j = m then v else V j, by simp, by simp, ?_, fun j o' hj ho => ?_, fun p hp hpm i o' hmi ho' hE hw => ?_, fun j o' hj ho hld i oi hji hoi hE hw => ?_⟩
      · have : ¬ ops.length = m := by simp at hl; omega
        simpa [this] using h3
      · by_cases hjm : j = m
        · subst hjm
          rw [h0] at ho
          cases ho
          simp only [if_true, if_neg (Nat.succ_ne_self j)]
          rw [h1, h2]
          exact ⟨rfl, hr⟩
        · have := h4 j o' (by omega) ho
          simp only [if_neg hjm, if_neg (show ¬ j + 1 = m by omega)]
          exact this
      · simp only [if_neg (show ¬ i + 1 = m by omega)]
        by_cases him : i = m
        · subst him
          rw [h0] at ho'
          cases ho'
          rw [h2]
          exact hnow p hp hpm hE (hw i o h0 (Nat.le_refl _) (Nat.le_refl _) hE)
        · exact h5 p (hkeep p hp hpm fun hE' => hw m o h0 (Nat.le_refl _) hmi hE') (by omega) i o' (by omega) ho' hE fun i' o2 h h' h'' h3 => hw i' o2 h (by omega) h'' h3
      · simp only [if_neg (show ¬ i + 1 = m by omega)]
        by_cases hjm : j = m
        · subst hjm
          rw [h0] at ho
          cases ho
          simp only [if_true]
          exact h5 _ (hnew hld) (Nat.lt_succ_self _) i oi (by omega) hoi hE fun i' o2 h h' h'' h3 => hw i' o2 h (by omega) h'' h3
        · simp only [if_neg hjm]
          exact h6 j o' (by omega) ho hld i oi hji hoi hE hw
    split at hk
    · rename_i hE
      obtain ⟨hk, hc⟩ := chks_spec hk
      exact key _ hk (fun p hp _ hb => mem_dropP.2 ⟨hp, hb hE⟩) (fun p hp _ _ hb => hc p (mem_dropP.2 ⟨hp, hb⟩)) (fun hl => by rw [isLd_E hl] at hE; cases hE)
    · rename_i hE
      split at hk
      · exact key _ hk (fun p hp _ _ => List.mem_cons_of_mem _ hp) (fun p _ _ h => by rw [hE] at h; cases h) (fun _ => List.mem_cons_self)
      · rename_i hl
        exact key _ hk (fun p hp _ _ => hp) (fun p _ _ h => by rw [hE] at h; cases h) (fun h => by rw [hl] at h; cases h)

end
end Go.Ab
