/- Bodies and functions. -/
import Derived.Test.YtdbdmlfnggbdiaaZabDraw2
namespace Go.Ab

/-- The values of some slots, one behind the other. -/
def St : List Nat → Type
  | [] => Unit
  | _ :: L => Value × St L

def gather : (L : List Nat) → Frm → St L
  | [], _ => ()
  | t :: L, fr => (fr t, gather L fr)

/-- Slots that a body may write. -/
def inDsts : Code → Nat → Bool
  | .region _ ops _, t => opsDst ops.toList t
  | .seq a b, t => inDsts a t || inDsts b t
  | .cond _ a b, t => inDsts a t || inDsts b t
  | .block _ c, t => inDsts c t
  | .loop c, t => inDsts c t
  | .skip, _ | .exit _, _ | .label _, _ | .ret, _ => false
  | _, _ => true

/-- Values laid over a frame. -/
def over : (L : List Nat) → St L → Frm → Frm
  | [], _, fr => fr
  | t :: L, s, fr => fun i => match Nat.beq i t with | true => s.1 | false => over L s.2 fr i

/-- The frame at a loop's head: its own slots by the state, what the round writes besides is not known, all else as it was. -/
def headFrm (c : Code) (L : List Nat) (fr : Frm) (s : St L) : Frm := over L s fun i => match inDsts c i with | true => junk | false => fr i

/-- The least that holds of a loop. -/
def W.loop {S : Type} (F : (S → Heap → Prop) → S → Heap → Prop) (s : S) (H : Heap) : Prop :=
  ∀ I : S → Heap → Prop, (∀ (J : S → Heap → Prop) (s : S) (H : Heap), (∀ s H, J s H → I s H) → F J s H → I s H) → I s H

/-- A loop that goes down by a measure. -/
theorem W.loop_rule {S : Type} {F : (S → Heap → Prop) → S → Heap → Prop} (Inv : S → Heap → Prop) (μ : S → Heap → Nat) {s : S} {H : Heap} (h0 : Inv s H)
    (step : ∀ s H, Inv s H → F (fun s' H' => Inv s' H' ∧ μ s' H' < μ s H) s H) : W.loop F s H := by
  intro I hI
  have key : ∀ n s H, μ s H = n → Inv s H → I s H := by
    intro n
    induction n using Nat.strongRecOn with
    | _ n ih =>
      intro s H hn hi
      exact hI _ s H (fun s' H' ⟨h1, h2⟩ => ih (μ s' H') (hn ▸ h2) s' H' rfl h1) (step s H hi)
  exact key _ s H rfl h0

def W.cond (v : Value) (H : Heap) (A B : Heap → Prop) : Prop := match v with | .bool true => A H | .bool false => B H | _ => False

/-- The number of the first region of a body: a loop's name. -/
def firstRegion : Code → Option Nat
  | .region id _ _ => some id
  | .seq a b => match firstRegion a with | some i => some i | none => firstRegion b
  | .block _ c => firstRegion c
  | .loop c => firstRegion c
  | .cond _ a b => match firstRegion a with | some i => some i | none => firstRegion b
  | _ => none

/-- The slots that live at a loop's head: by the number of the loop's first region. -/
abbrev Ann := List (Nat × List Nat)

def Ann.of (ann : Ann) (c : Code) : List Nat :=
  match firstRegion c with
  | some i => match ann.find? (fun p => Nat.beq p.1 i) with | some p => p.2 | none => []
  | none => []

abbrev Cont := Exit → Frm → Heap → Prop

def den (P : Program) (ann : Ann) : Code → Cont → Frm → Heap → Prop
  | .skip, K, fr, H => K .normal fr H
  | .region _ ops draw, K, fr, H =>
    match draw with
    | false => denOps P ops.toList ops.toList (fun fr H => K .normal fr H) fr H
    | true => match drawOk ops.toList with
      | true => denOpsQ P ops.toList ops.toList (fun fr H => K .normal fr H) fr H
      | false => match drawOkF ops.toList with | true => denOpsF P ops.toList (masks ops.toList) ops.toList 0 [] (fun fr H => K .normal fr H) fr H | false => False
  | .seq a b, K, fr, H => den P ann a (fun e fr H => match e with | .normal => den P ann b K fr H | e => K e fr H) fr H
  | .cond c a b, K, fr, H => W.cond (aev fr c) H (fun H => den P ann a K fr H) (fun H => den P ann b K fr H)
  | .block id c, K, fr, H => den P ann c (fun e fr H => match e with | .exit j => (match Nat.beq j id with | true => K .normal fr H | false => K (.exit j) fr H) | e => K e fr H) fr H
  | .loop c, K, fr, H =>
    match (ann.of c).all (inDsts c) with
    | true => W.loop (fun I s H => den P ann c (fun e fr H => match e with | .normal => I (gather (ann.of c) fr) H | e => K e fr H) (headFrm c (ann.of c) fr s) H) (gather (ann.of c) fr) H
    | false => False
  | .exit id, K, fr, H => K (.exit id) fr H
  | .label _, K, fr, H => K .normal fr H
  | .ret, K, fr, H => K .ret fr H
  | _, _, _, _ => False

/-- All regions' destinations lie in the frame. -/
def codeOk (n : Nat) : Code → Bool
  | .region _ ops _ => dstsOk n ops.toList
  | .seq a b => codeOk n a && codeOk n b
  | .cond _ a b => codeOk n a && codeOk n b
  | .block _ c => codeOk n c
  | .loop c => codeOk n c
  | _ => true

theorem over_gather {φ : Phi} {H : Heap} {fr fr' : Frm} {tmps : Array Value} (f : FR φ H fr' tmps) (L : List Nat) (g : FR φ H fr tmps) : FR φ H (over L (gather L fr') fr) tmps := by
  induction L with
  | nil => exact g
  | cons i L ih =>
    intro t
    simp only [over, gather]
    split
    · rename_i hb
      have := Nat.eq_of_beq_eq_true hb
      subst this
      exact f t
    · exact ih t

theorem head_FR {φ : Phi} {H : Heap} {c : Code} {fr fr' : Frm} {tmps : Array Value} (f : FR φ H fr' tmps) (h : ∀ t, inDsts c t = false → fr' t = fr t) (L : List Nat) :
    FR φ H (headFrm c L fr (gather L fr')) tmps :=
  over_gather f L fun t => by
    split
    · exact .junk _
    · rename_i hb
      rw [← h t hb]
      exact f t

theorem over_of_not (L : List Nat) (s : St L) (fr : Frm) (t : Nat) (h : L.all (fun i => !Nat.beq t i) = true) : over L s fr t = fr t := by
  induction L with
  | nil => rfl
  | cons i L ih =>
    simp only [List.all_cons, Bool.and_eq_true, Bool.not_eq_true'] at h
    simp only [over, h.1]
    exact ih s.2 h.2

/-- The post of a step. -/
def SPost (n : Nat) (φ : Phi) (H : Heap) (w : World) (e : Exit) (fr' : Frm) (H' : Heap) : Exit → Act → World → Prop :=
  fun e' a' w' => e' = e ∧ a'.defers = [] ∧ a'.tmps.size = n ∧ ∃ φ', Ext φ H w φ' H' w' ∧ FR φ' H' fr' a'.tmps

theorem SPost.trans {n : Nat} {φ : Phi} {H : Heap} {w : World} {φ1 : Phi} {H1 : Heap} {w1 : World} {e e' : Exit} {fr' : Frm} {H' : Heap} {a' : Act} {w' : World}
    (x : Ext φ H w φ1 H1 w1) (h : SPost n φ1 H1 w1 e fr' H' e' a' w') : SPost n φ H w e fr' H' e' a' w' := by
  obtain ⟨h1, h2, h3, φ', x2, f⟩ := h
  exact ⟨h1, h2, h3, φ', x.trans x2, f⟩

theorem den_sound {P : Program} {ann : Ann} {n : Nat} (hm : P.follows .mixedOrders = true) : ∀ (c : Code) (K : Cont) (fr : Frm) (H : Heap), codeOk n c = true → den P ann c K fr H →
    ∃ e fr' H', K e fr' H' ∧ (∀ t, inDsts c t = false → fr' t = fr t) ∧ CStep P c n fr H e fr' H'
  | .skip, K, fr, H, _, h => ⟨_, _, _, h, fun _ _ => rfl, fun φ w a s f hn hd => wp_skip ⟨rfl, hd, hn, φ, .refl s, f⟩⟩
  | .label l, K, fr, H, _, h => ⟨_, _, _, h, fun _ _ => rfl, fun φ w a s f hn hd => wp_label ⟨rfl, hd, hn, φ, .refl s, f⟩⟩
  | .exit id, K, fr, H, _, h => ⟨_, _, _, h, fun _ _ => rfl, fun φ w a s f hn hd => wp_exit ⟨rfl, hd, hn, φ, .refl s, f⟩⟩
  | .ret, K, fr, H, _, h => ⟨_, _, _, h, fun _ _ => rfl, fun φ w a s f hn hd => wp_ret ⟨rfl, hd, hn, φ, .refl s, f⟩⟩
  | .region id ops draw, K, fr, H, hc, h => by
    simp only [den] at h
    simp only [codeOk] at hc
    split at h
    · obtain ⟨fr', H', hK, ha, hr⟩ := denOps_sound n _ _ _ h hc
      exact ⟨.normal, fr', H', hK, ha, fun φ w a s f hn hd => wp_region_list (hr φ w a s f hn hd)⟩
    · split at h
      · rename_i hd
        obtain ⟨fr', H', hK, ha, hr⟩ := denOpsQ_sound (id := id) n hm hd hc h
        exact ⟨.normal, fr', H', hK, ha, hr⟩
      · split at h
        · rename_i hd
          obtain ⟨fr', H', hK, ha, hr⟩ := denOpsF_sound (id := id) n hm hd hc h
          exact ⟨.normal, fr', H', hK, ha, hr⟩
        · exact h.elim
  | .seq x y, K, fr, H, hc, h => by
    simp only [den] at h
    simp only [codeOk, Bool.and_eq_true] at hc
    obtain ⟨e, fr1, H1, hK, hax, hx⟩ := den_sound hm x _ fr H hc.1 h
    have hax' : ∀ t, inDsts (.seq x y) t = false → fr1 t = fr t := fun t ht => by
      simp only [inDsts, Bool.or_eq_false_iff] at ht
      exact hax t ht.1
    cases e with
    | normal =>
      obtain ⟨e2, fr2, H2, hK2, hay, hy⟩ := den_sound hm y K fr1 H1 hc.2 hK
      refine ⟨e2, fr2, H2, hK2, fun t ht => ?_, fun φ w a s f hn hd => wp_seq ?_⟩
      · have ht' := ht
        simp only [inDsts, Bool.or_eq_false_iff] at ht'
        rw [hay t ht'.2, hax' t ht]
      · refine wp_mono (hx φ w a s f hn hd) ?_
        rintro e' a' w' ⟨rfl, hd', hn', φ', x', f'⟩
        exact wp_mono (hy φ' w' a' x'.sim f' hn' hd') fun e'' a'' w'' q => SPost.trans x' q
    | exit j => exact ⟨_, fr1, H1, hK, hax', fun φ w a s f hn hd => wp_seq (wp_mono (hx φ w a s f hn hd) (by rintro e' a' w' ⟨rfl, q⟩; exact ⟨rfl, q⟩))⟩
    | goto j => exact ⟨_, fr1, H1, hK, hax', fun φ w a s f hn hd => wp_seq (wp_mono (hx φ w a s f hn hd) (by rintro e' a' w' ⟨rfl, q⟩; exact ⟨rfl, q⟩))⟩
    | ret => exact ⟨_, fr1, H1, hK, hax', fun φ w a s f hn hd => wp_seq (wp_mono (hx φ w a s f hn hd) (by rintro e' a' w' ⟨rfl, q⟩; exact ⟨rfl, q⟩))⟩
    | panic ch => exact ⟨_, fr1, H1, hK, hax', fun φ w a s f hn hd => wp_seq (wp_mono (hx φ w a s f hn hd) (by rintro e' a' w' ⟨rfl, q⟩; exact ⟨rfl, q⟩))⟩
    | outgrown => exact ⟨_, fr1, H1, hK, hax', fun φ w a s f hn hd => wp_seq (wp_mono (hx φ w a s f hn hd) (by rintro e' a' w' ⟨rfl, q⟩; exact ⟨rfl, q⟩))⟩
  | .cond c x y, K, fr, H, hc, h => by
    simp only [den] at h
    simp only [codeOk, Bool.and_eq_true] at hc
    unfold W.cond at h
    split at h
    · rename_i hb
      obtain ⟨e, fr1, H1, hK, ha, hx⟩ := den_sound hm x K fr H hc.1 h
      refine ⟨e, fr1, H1, hK, fun t ht => ha t (by simp only [inDsts, Bool.or_eq_false_iff] at ht; exact ht.1), fun φ w a s f hn hd => wp_cond_true ?_ (hx φ w a s f hn hd)⟩
      have := f.eval c
      rw [hb] at this
      exact this.of_bool
    · rename_i hb
      obtain ⟨e, fr1, H1, hK, ha, hx⟩ := den_sound hm y K fr H hc.2 h
      refine ⟨e, fr1, H1, hK, fun t ht => ha t (by simp only [inDsts, Bool.or_eq_false_iff] at ht; exact ht.2), fun φ w a s f hn hd => wp_cond_false ?_ (hx φ w a s f hn hd)⟩
      have := f.eval c
      rw [hb] at this
      exact this.of_bool
    · exact h.elim
  | .block id c, K, fr, H, hc, h => by
    simp only [den] at h
    simp only [codeOk] at hc
    obtain ⟨e, fr1, H1, hK, ha, hx⟩ := den_sound hm c _ fr H hc h
    have ha' : ∀ t, inDsts (.block id c) t = false → fr1 t = fr t := ha
    cases e with
    | exit j =>
      simp only at hK
      split at hK
      · rename_i hb
        have := Nat.eq_of_beq_eq_true hb
        subst this
        refine ⟨.normal, fr1, H1, hK, ha', fun φ w a s f hn hd => wp_block (wp_mono (hx φ w a s f hn hd) ?_)⟩
        rintro e' a' w' ⟨rfl, q⟩
        simp only [Exit.inBlock, if_true]
        exact ⟨trivial, q⟩
      · rename_i hb
        refine ⟨.exit j, fr1, H1, hK, ha', fun φ w a s f hn hd => wp_block (wp_mono (hx φ w a s f hn hd) ?_)⟩
        rintro e' a' w' ⟨rfl, q⟩
        have hne : ¬ j = id := fun e => by subst e; rw [Nat.beq_refl] at hb; cases hb
        simp only [Exit.inBlock, if_neg hne]
        exact ⟨trivial, q⟩
    | normal => exact ⟨_, fr1, H1, hK, ha', fun φ w a s f hn hd => wp_block (wp_mono (hx φ w a s f hn hd) (by rintro e' a' w' ⟨rfl, q⟩; exact ⟨rfl, q⟩))⟩
    | goto j => exact ⟨_, fr1, H1, hK, ha', fun φ w a s f hn hd => wp_block (wp_mono (hx φ w a s f hn hd) (by rintro e' a' w' ⟨rfl, q⟩; exact ⟨rfl, q⟩))⟩
    | ret => exact ⟨_, fr1, H1, hK, ha', fun φ w a s f hn hd => wp_block (wp_mono (hx φ w a s f hn hd) (by rintro e' a' w' ⟨rfl, q⟩; exact ⟨rfl, q⟩))⟩
    | panic ch => exact ⟨_, fr1, H1, hK, ha', fun φ w a s f hn hd => wp_block (wp_mono (hx φ w a s f hn hd) (by rintro e' a' w' ⟨rfl, q⟩; exact ⟨rfl, q⟩))⟩
    | outgrown => exact ⟨_, fr1, H1, hK, ha', fun φ w a s f hn hd => wp_block (wp_mono (hx φ w a s f hn hd) (by rintro e' a' w' ⟨rfl, q⟩; exact ⟨rfl, q⟩))⟩
  | .loop c, K, fr, H, hc, h => by
    simp only [den] at h
    simp only [codeOk] at hc
    split at h
    case h_2 => exact h.elim
    rename_i hL
    have hnot : ∀ t, inDsts c t = false → (ann.of c).all (fun i => !Nat.beq t i) = true := fun t ht => by
      rw [List.all_eq_true]
      intro i hi
      cases hb : Nat.beq t i with
      | false => rfl
      | true =>
        have := Nat.eq_of_beq_eq_true hb
        subst this
        have := List.all_eq_true.1 hL _ hi
        rw [ht] at this
        cases this
    have hhead : ∀ (s : St (ann.of c)) (t : Nat), inDsts c t = false → headFrm c (ann.of c) fr s t = fr t := fun s t ht => by
      unfold headFrm
      rw [over_of_not _ _ _ _ (hnot t ht), ht]
    -- what a loop that stands before us comes to, in a frame of this shape
    let I : St (ann.of c) → Heap → Prop := fun s H => ∃ e fr' H', K e fr' H' ∧ (∀ t, inDsts c t = false → fr' t = fr t) ∧
      ∀ (φ : Phi) (w : World) (a : Act), Sim φ H w → FR φ H (headFrm c (ann.of c) fr s) a.tmps → a.tmps.size = n → a.defers = [] →
      ∀ (b : Frame) (k : List Item) (cs : List Frame), ∃ a' w', SPost n φ H w e fr' H' e a' w' ∧ Arrives P (lone (b.at a (.code c :: .inLoop c :: k)) cs w) b k cs e a' w'
    have hI : I (gather (ann.of c) fr) H := h I (by
      intro J s H hJ hF
      obtain ⟨e, fr1, H1, hK, ha, hx⟩ := den_sound hm c _ _ H hc hF
      have ha1 : ∀ t, inDsts c t = false → fr1 t = fr t := fun t ht => by rw [ha t ht, hhead s t ht]
      cases e with
      | normal =>
        obtain ⟨e2, fr2, H2, hK2, ha2, hy⟩ := hJ _ _ hK
        refine ⟨e2, fr2, H2, hK2, ha2, fun φ w a s0 f hn hd b k cs => ?_⟩
        obtain ⟨e', a', w', ⟨rfl, hd', hn', φ', x', f'⟩, harr⟩ := hx φ w a s0 f hn hd b (.inLoop c :: k) cs
        obtain ⟨a2, w2, q, harr2⟩ := hy φ' w' a' x'.sim (head_FR f' ha1 _) hn' hd' b k cs
        exact ⟨a2, w2, q.trans x', .of_steps (Steps.trans harr (.one step_inLoop)) harr2⟩
      | exit j =>
        refine ⟨_, fr1, H1, hK, ha1, fun φ w a s0 f hn hd b k cs => ?_⟩
        obtain ⟨e', a', w', ⟨rfl, q⟩, harr⟩ := hx φ w a s0 f hn hd b (.inLoop c :: k) cs
        exact ⟨a', w', ⟨rfl, q⟩, .pass (x := .inLoop c) rfl (fun _ _ => .inl (by simp)) harr⟩
      | goto j =>
        refine ⟨_, fr1, H1, hK, ha1, fun φ w a s0 f hn hd b k cs => ?_⟩
        obtain ⟨e', a', w', ⟨rfl, q⟩, harr⟩ := hx φ w a s0 f hn hd b (.inLoop c :: k) cs
        exact ⟨a', w', ⟨rfl, q⟩, .pass (x := .inLoop c) rfl (fun _ _ => .inl (by simp)) harr⟩
      | ret =>
        refine ⟨_, fr1, H1, hK, ha1, fun φ w a s0 f hn hd b k cs => ?_⟩
        obtain ⟨e', a', w', ⟨rfl, q⟩, harr⟩ := hx φ w a s0 f hn hd b (.inLoop c :: k) cs
        exact ⟨a', w', ⟨rfl, q⟩, .pass (x := .inLoop c) rfl (fun _ _ => .inl (by simp)) harr⟩
      | panic ch =>
        refine ⟨_, fr1, H1, hK, ha1, fun φ w a s0 f hn hd b k cs => ?_⟩
        obtain ⟨e', a', w', ⟨rfl, q⟩, harr⟩ := hx φ w a s0 f hn hd b (.inLoop c :: k) cs
        exact ⟨a', w', ⟨rfl, q⟩, .pass (x := .inLoop c) rfl (fun _ _ => .inl (by simp)) harr⟩
      | outgrown =>
        refine ⟨_, fr1, H1, hK, ha1, fun φ w a s0 f hn hd b k cs => ?_⟩
        obtain ⟨e', a', w', ⟨rfl, q⟩, harr⟩ := hx φ w a s0 f hn hd b (.inLoop c :: k) cs
        exact ⟨a', w', ⟨rfl, q⟩, .pass (x := .inLoop c) rfl (fun _ _ => .inl (by simp)) harr⟩)
    obtain ⟨e, fr', H', hK, ha, hr⟩ := hI
    refine ⟨e, fr', H', hK, ha, fun φ w a s f hn hd b k cs => ?_⟩
    obtain ⟨a', w', q, harr⟩ := hr φ w a s (head_FR f (fun _ _ => rfl) _) hn hd b k cs
    exact ⟨e, a', w', q, .of_steps (.one step_loop) harr⟩
  | .rangeFunc _ _ _ _, _, _, _, _, h => h.elim
  | .scope _, _, _, _, _, h => h.elim
  | .goto _, _, _, _, _, h => h.elim
  | .refuse _, _, _, _, _, h => h.elim

/-! ### Functions -/

/-- One result alone, or all together. -/
def fin (l : List Value) : Value := match l with | [v] => v | l => .tuple l.toArray

def resOf (tmps : Array Value) (r : ResultVar) : Sem Value :=
  match r with
  | .tmp t => pure (tmps.getD t undef)
  | .cell a t => do loadVar t (← asAddr (tmps.getD a undef))

def denRes (P : Program) : List ResultVar → List Value → Frm → Heap → Post → Prop
  | [], acc, _, H, Q => Q (fin acc) H
  | .tmp t :: rs, acc, fr, H, Q => denRes P rs (acc ++ [fr t]) fr H Q
  | .cell a t :: rs, acc, fr, H, Q =>
    match isAggT P t, P.info? t with
    | some false, _ => W.get (fr a) H (fun v H => denRes P rs (acc ++ [v]) fr H Q)
    | some true, some i => W.getN i.size (fr a) H (fun v H => denRes P rs (acc ++ [v]) fr H Q)
    | _, _ => False

def startFrm (args : List Value) : Frm := fun i => args.getD i undef

def denFn (P : Program) (ann : Ann) (fn : Func) (c : Code) (args : List Value) (H : Heap) (Q : Post) : Prop :=
  den P ann c (fun e fr H => match e with | .normal => denRes P fn.results.toList [] fr H Q | .ret => denRes P fn.results.toList [] fr H Q | _ => False) (startFrm args) H

theorem denRes_sound {P : Program} {Q : Post} : ∀ (rs : List ResultVar) (acc : List Value) (fr : Frm) (H : Heap), denRes P rs acc fr H Q →
    ∃ (vs : List Value), Q (fin (acc ++ vs)) H ∧ ∀ (φ : Phi) (w : World) (tmps : Array Value), Sim φ H w → FR φ H fr tmps →
      ∃ cvs : List Value, (rs.mapM (resOf tmps)).run P w = .ok cvs w ∧ LR φ H vs cvs
  | [], acc, fr, H, h => ⟨[], by simpa [denRes] using h, fun φ w tmps s f => ⟨[], by simp, .nil⟩⟩
  | .tmp t :: rs, acc, fr, H, h => by
    simp only [denRes] at h
    obtain ⟨vs, hq, hr⟩ := denRes_sound rs _ fr H h
    refine ⟨fr t :: vs, by simpa using hq, fun φ w tmps s f => ?_⟩
    obtain ⟨cvs, h1, h2⟩ := hr φ w tmps s f
    refine ⟨tmps.getD t undef :: cvs, ?_, ?_⟩
    · rw [List.mapM_cons]
      simp only [resOf, Sem.run_bind, Sem.run_pure, Result.andThen_ok, h1]
    · exact (LR.one (f t)).append h2
  | .cell a t :: rs, acc, fr, H, h => by
    simp only [denRes] at h
    split at h
    · rename_i ht
      unfold W.get at h
      split at h
      · rename_i p hp
        split at h
        · rename_i v hv
          obtain ⟨vs, hq, hr⟩ := denRes_sound rs _ fr H h
          refine ⟨v :: vs, by simpa using hq, fun φ w tmps s f => ?_⟩
          obtain ⟨cvs, h1, h2⟩ := hr φ w tmps s f
          have fa := f a
          rw [hp] at fa
          obtain ⟨p', hp', har⟩ := fa.of_ptr
          obtain ⟨v', g1, g2⟩ := s.get har hv
          refine ⟨v' :: cvs, ?_, (LR.one g2).append h2⟩
          have e : (resOf tmps (.cell a t)).run P w = .ok v' w := by
            simp [resOf, hp', asAddr, loadVar, isAgg_run ht, g1]
          rw [List.mapM_cons]
          simp only [Sem.run_bind, Sem.run_pure, Result.andThen_ok, e, h1]
        · exact h.elim
      · exact h.elim
    · rename_i i ht hi
      unfold W.getN at h
      split at h
      · rename_i p hp
        split at h
        · rename_i us hv
          obtain ⟨vs, hq, hr⟩ := denRes_sound rs _ fr H h
          refine ⟨.agg us.toArray :: vs, by simpa using hq, fun φ w tmps s f => ?_⟩
          obtain ⟨cvs, h1, h2⟩ := hr φ w tmps s f
          have fa := f a
          rw [hp] at fa
          obtain ⟨p', hp', har⟩ := fa.of_ptr
          obtain ⟨us', g1, g2, g3, g4⟩ := s.getN har hv
          have hl := run_loadCells_list (P := P) w p' us' g3
          rw [g1] at hl
          refine ⟨.agg us'.toArray :: cvs, ?_, (LR.one (LR.agg ⟨by omega, g4⟩)).append h2⟩
          have e : (resOf tmps (.cell a t)).run P w = .ok (.agg us'.toArray) w := by
            simp [resOf, hp', asAddr, loadVar, isAgg_run ht, sizeOf_run hi, hl]
          rw [List.mapM_cons]
          simp only [Sem.run_bind, Sem.run_pure, Result.andThen_ok, e, h1]
        · exact h.elim
      · exact h.elim
    · exact h.elim

theorem fn_sound {P : Program} {ann : Ann} {f : FuncId} {fn : Func} {c : Code} {args : Array Value} {H : Heap} {Q : Post} (hm : P.follows .mixedOrders = true) (hf : P.funcs[f]? = some fn) (hb : fn.body = some c)
    (hname : (fn.name == "runtime.NumGoroutine") = false) (hok : codeOk fn.ntmps c = true) (hargs : Nat.ble args.size fn.ntmps = true)
    (h : denFn P ann fn c args.toList H Q) : Runs P f args H Q := by
  refine ⟨⟨fn, hf, by rw [hb]; rfl, hname⟩, ?_⟩
  obtain ⟨e, fr', H', hK, -, hs⟩ := den_sound hm c _ _ H hok h
  have hres : (e = .normal ∨ e = .ret) ∧ denRes P fn.results.toList [] fr' H' Q := by
    cases e <;> first | exact ⟨.inl rfl, hK⟩ | exact ⟨.inr rfl, hK⟩ | exact hK.elim
  obtain ⟨vs, hq, hr⟩ := denRes_sound _ _ _ _ hres.2
  refine ⟨fin vs, H', fun φ w cargs s ra => calls_of_wp hf hb ?_, by simpa using hq⟩
  have hle := Nat.le_of_ble_eq_true hargs
  have hsz : (cargs ++ Array.replicate (fn.ntmps - cargs.size) undef).size = fn.ntmps := by
    have := ra.1
    simp
    omega
  have hf0 : FR φ H (startFrm args.toList) (cargs ++ Array.replicate (fn.ntmps - cargs.size) undef) := by
    intro t
    simp only [startFrm, Array.getD_eq_getD_getElem?, List.getD_eq_getElem?_getD, Array.getElem?_toList]
    by_cases ht : t < args.size
    · have ht' : t < cargs.size := by have := ra.1; omega
      rw [Array.getElem?_append_left ht']
      simp only [ht, ht', Array.getElem?_eq_getElem, Option.getD_some]
      exact ra.2 t ht ht'
    · have ht' : ¬ t < cargs.size := by have := ra.1; omega
      rw [Array.getElem?_append_right (by omega), Array.getElem?_replicate]
      have : args[t]? = none := by simp; omega
      rw [this]
      split <;> exact undef_VR
  refine wp_mono (hs φ w _ s hf0 hsz rfl) ?_
  rintro e' a' w' ⟨rfl, hd, hn, φ', x, f'⟩
  obtain ⟨cvs, h1, h2⟩ := hr φ' w' a'.tmps x.sim f'
  have hrun : (results fn a'.tmps).run P w' = .ok (fin cvs) w' := by
    have e1 : results fn a'.tmps = (do let vs ← fn.results.mapM (resOf a'.tmps); pure (if h : vs.size = 1 then vs[0] else .tuple vs)) := rfl
    rw [e1, Array.mapM_eq_mapM_toList]
    simp only [Sem.run_bind, Sem.run_map, h1, Result.andThen_ok, Sem.run_pure]
    congr 1
    cases cvs with
    | nil => simp [fin]
    | cons v l => cases l with
      | nil => simp [fin]
      | cons u l => simp [fin]
  have hpost : a'.defers = [] ∧ ∃ v, (results fn a'.tmps).run P w' = .ok v w' ∧ ∃ φ' cv, Ending.returned v = .returned cv ∧ Ext φ H w φ' H' w' ∧ VR φ' H' (fin vs) cv := by
    refine ⟨hd, _, hrun, φ', _, rfl, x, ?_⟩
    obtain ⟨hl, hv⟩ := h2
    cases vs with
    | nil => cases cvs with
      | nil => exact undef_VR
      | cons => simp at hl
    | cons v l => cases cvs with
      | nil => simp at hl
      | cons u m =>
        cases l with
        | nil => cases m with
          | nil => exact hv 0 v u rfl rfl
          | cons => simp at hl
        | cons v2 l => cases m with
          | nil => simp at hl
          | cons u2 m => exact .tuple _ _ (by simpa using hl) (fun i g1 g2 => hv i _ _ (by simp) (by simp))
  rcases hres.1 with rfl | rfl <;> exact hpost

/-- A function by its text. -/
theorem fn_enter {P : Program} {ann : Ann} {f : FuncId} {fn : Func} {c : Code} {args : Array Value} {H : Heap} {Q : Post} {T : Prop} (hm : P.follows .mixedOrders = true) (hf : P.funcs[f]? = some fn) (hb : fn.body = some c)
    (hok : (!(fn.name == "runtime.NumGoroutine") && codeOk fn.ntmps c && Nat.ble args.size fn.ntmps) = true) (h : T) (he : T = denFn P ann fn c args.toList H Q) : Runs P f args H Q := by
  simp only [Bool.and_eq_true, Bool.not_eq_true'] at hok
  exact fn_sound hm hf hb hok.1.1 hok.1.2 hok.2 (he ▸ h)

end Go.Ab
