/- The laws' own helpers: copying arguments. -/
import Derived.Test.YtdbdmlfnggbdiaaZabLaw6
namespace Go.Ab

theorem valOf_one (u : Value) : valOf false [u] = u := rfl

/-- The same to a block's cells but those of one block. -/
structure Heap.LeBut (H : Heap) (b : Nat) (H' : Heap) : Prop where
  next : H.next ≤ H'.next
  blk : ∀ c, c < H.next → c ≠ b → H'.blk c = H.blk c

theorem Rd.leBut {α : Type} (r : Rd α) {H H' : Heap} {b : Nat} {bs : List Nat} {cs : List Value} {x : α} (h : r.rel H bs cs x) (l : H.LeBut b H') (hb : b ∉ bs) : r.rel H' bs cs x :=
  r.frame h l.next fun c hc => l.blk c (r.low h c hc) fun e => hb (e ▸ hc)

abbrev Cpy := Value → Heap → Post → Prop

/-- Copying a value: as it reads, in new blocks. -/
def ToV {α : Type} (agg : Bool) (r : Rd α) (w : α → Nat) (E : Cpy) : Prop :=
  ∀ H bs cs x (K : Post), r.rel H bs cs x → w x ≤ 1048576 → (∀ H' cs', Fresh r H cs' x H' → K (valOf agg cs') H') → E (valOf agg cs) H K

theorem ToV.int : ToV false Rd.int sz0 (fun v H K => K v H) := by
  rintro H bs cs x K ⟨rfl, rfl, h⟩ _ hK
  exact hK H [.int .i64 x] (Fresh.int (.refl _) h)

def ToC {α : Type} (P : Program) (f : FuncId) (r : Rd α) (w : α → Nat) : Prop :=
  ∀ H bs v x (Q : Post), r.rel H bs [v] x → w x ≤ 1048576 → (∀ H' u, Fresh r H [u] x H' → Q u H') → Runs P f #[v] H Q

def ToA {α : Type} (P : Program) (f : FuncId) (r : Rd α) (w : α → Nat) : Prop :=
  ∀ H bs cs x (Q : Post), r.rel H bs cs x → w x ≤ 1048576 → (∀ H' cs', Fresh r H cs' x H' → Q (.agg cs'.toArray) H') → Runs P f #[.agg cs.toArray] H Q

theorem ToV.one {α : Type} {P : Program} {f : FuncId} {r : Rd α} {w : α → Nat} (hr : r.n = 1) (h : ToC P f r w) : ToV false r w (fun v H K => W.call P (.func (.func f) #[] #[]) #[v] H K) := by
  intro H bs cs x K h1 hw hK
  have l1 := r.len h1
  rw [hr] at l1
  obtain ⟨u1, rfl⟩ := List.length_eq_one_iff.1 l1
  exact Wi.call (h _ _ _ _ _ h1 hw fun H' u f => hK H' [u] f)

theorem ToV.call {α : Type} {P : Program} {f : FuncId} {r : Rd α} {w : α → Nat} (h : ToA P f r w) : ToV true r w (fun v H K => W.call P (.func (.func f) #[] #[]) #[v] H K) := by
  intro H bs cs x K h1 hw hK
  exact Wi.call (h _ _ _ _ _ h1 hw fun H' u f => hK H' u f)

def toSliceW (n : Nat) (z : Value) (ty : TypeId) (E : Cpy) (Q : Post) (a : Value) (H : Heap) : Prop :=
  W.len a H fun v1 H => W.make [z] ty v1 v1 H fun v2 H => W.loop (S := St [n]) (fun I s H =>
    W.len a H fun v3 H => W.bin .lss s.1 v3 H fun v4 H => W.cond v4 H
      (fun H => W.indexAddr 1 a s.1 H fun v5 H => W.get v5 H fun v6 H => E v6 H fun v7 H => W.indexAddr 1 v2 s.1 H fun v8 H => W.put v8 v7 H fun _ H => W.bin .add s.1 (.int .i64 1) H fun v9 H => I (v9, ()) H)
      (fun H => Q v2 H)) (.int .i64 0, ()) H

theorem reps_one (n : Nat) (z : Value) : reps n [z] = List.replicate n z := by
  induction n with
  | zero => rfl
  | succ n ih =>
    rw [List.replicate_succ, ← ih]
    simp [reps, List.replicate_succ]

theorem toSlice_ok {α : Type} {r : Rd α} (hr : r.n = 1) {w : α → Nat} {E : Cpy} (hE : ToV false r w E) {n : Nat} {z : Value} {ty : TypeId} {Q : Post} {H : Heap} {bs : List Nat} {a : Value} {xs : List α}
    (h : (Rd.slice r).rel H bs [a] xs) (hlen : xs.length ≤ 1048576) (hw : ∀ x ∈ xs, w x ≤ 1048576) (hQ : ∀ H' u, Fresh (Rd.slice r) H [u] xs H' → Q u H') : toSliceW n z ty E Q a H := by
  obtain ⟨p1, e1, g1⟩ := Rd.slice_val h
  simp only [List.cons.injEq, and_true] at g1
  unfold toSliceW
  rw [g1]
  refine Wi.len (Wi.make (by omega) fun H1 l1 n1 k1 => ?_)
  rw [reps_one] at k1
  refine W.loop_rule (fun s H' => ∃ zs ws us, xs = zs ++ ws ∧ s = (.int .i64 zs.length, ()) ∧ H'.blk H.next = some ⟨us ++ List.replicate ws.length z, ty, 1, false⟩ ∧ FreshL r H (H.next + 1) us zs H')
    (fun s _ => match s.1 with | .int _ i => xs.length - i.toNat | _ => 0) ⟨[], xs, [], rfl, rfl, k1, .nil l1 (by omega) (by omega)⟩ ?_
  rintro s H2 ⟨zs, ws, us, hxs, rfl, k2, F⟩
  have hus := F.len
  have hHn := F.high
  refine Wi.len (Wi.lss (Wi.cond (fun hlt => ?_) fun hge => ?_))
  · have hz : zs.length < xs.length := by
      simp only [decide_eq_true_eq] at hlt; omega
    cases ws with
    | nil => rw [hxs] at hz; simp at hz
    | cons x ws =>
      obtain ⟨b, o, e, kb, fs, q1, q2, s⟩ := Rd.slice_at (Rd.le _ h F.le) hz
      obtain ⟨u, m1, r1⟩ := s.one hr hz
      rw [← g1, q1]
      have hget : xs[zs.length] = x := by simp [hxs]
      rw [hget] at r1
      refine Wi.index hz (Wi.get s.blk m1 (hE _ _ [u] _ _ r1 (hw x (by rw [hxs]; simp)) fun H3 cs' F3 => ?_))
      obtain ⟨b3, p1, _⟩ := F3.has
      have l3 := r.len p1
      rw [hr] at l3
      obtain ⟨u', rfl⟩ := List.length_eq_one_iff.1 l3
      have k3 := F3.le.at k2 (by omega)
      refine Wi.index (b := H.next) (o := 0) hz (Wi.put k3 (by simpa [valOf_one] using r.cell p1) rfl (by simp; omega) fun H4 w4 => ?_)
      refine Wi.add (by unfold I64; omega) ⟨⟨zs ++ [x], ws, us ++ [u'], by rw [hxs]; simp, ?_, ?_, (F.snoc F3).put w4 (Nat.le_refl _) (by omega)⟩, ?_⟩
      · simp
        rfl
      · rw [w4.here]
        congr 2
        simp only [Nat.zero_add, Nat.mul_one, ← hus, List.length_cons, List.replicate_succ]
        rw [List.set_append_right _ _ (Nat.le_refl _)]
        simp [valOf_one]
      · simp only
        simp
        omega
  · have hz : zs.length = xs.length := by
      have : zs.length ≤ xs.length := by rw [hxs]; simp
      simp only [decide_eq_false_iff_not] at hge
      omega
    have : ws = [] := by
      rw [hxs] at hz
      simp at hz
      exact hz
    subst this
    rw [List.append_nil] at hxs
    subst hxs
    exact hQ H2 _ (F.slice hr (by omega) k2 rfl (by simp) rfl (Nat.le_refl _) (by omega) (by omega) (Nat.le_refl _))

theorem szl_mem {α : Type} {w : α → Nat} {xs : List α} {x : α} (h : x ∈ xs) : w x ≤ szl w xs := by
  induction xs with
  | nil => cases h
  | cons y xs ih =>
    simp only [szl]
    rcases List.mem_cons.1 h with rfl | h
    · omega
    · have := ih h; omega

theorem ToC.slice {α : Type} {P : Program} {f : FuncId} {r : Rd α} (hr : r.n = 1) {w : α → Nat} {E : Cpy} (hE : ToV false r w E) {n : Nat} {z : Value} {ty : TypeId}
    (enter : ∀ (Q : Post) (a : Value) (H : Heap), toSliceW n z ty E Q a H → Runs P f #[a] H Q) : ToC P f (Rd.slice r) (wl w) := by
  intro H bs v xs Q h hw hQ
  simp only [wl] at hw
  exact enter _ _ _ (toSlice_ok hr hE h (by omega) (fun x hx => by have := szl_mem (w := w) hx; omega) hQ)

theorem szl_zero {α : Type} (xs : List α) : szl (sz0 (α := α)) xs = 0 := by
  induction xs with
  | nil => rfl
  | cons x xs ih => simp [szl, ih, sz0]

/-- The weight of a list of numbers is its length. -/
theorem ToC.len {P : Program} {f : FuncId} {α : Type} {r : Rd α} (h : ToC P f (Rd.slice r) (wl sz0)) : ToC P f (Rd.slice r) List.length := by
  intro H bs v xs Q h1 hw hQ
  exact h _ _ _ _ _ h1 (by simp only [wl, szl_zero]; omega) hQ

/-! ### Structs -/

structure TFld where
  off : Nat
  n : Nat
  agg : Bool
  E : Cpy

inductive TfOK : Nat → {α : Type} → Rd α → (α → Nat) → List TFld → Prop
  | one {α : Type} {o : Nat} {r : Rd α} {w : α → Nat} {agg : Bool} {E : Cpy} {n : Nat} (hn : r.n = n) (ha : agg = false → n = 1) (h : ToV agg r w E) : TfOK o r w [⟨o, n, agg, E⟩]
  | pair {α β : Type} {o o' : Nat} {r : Rd α} {s : Rd β} {w : α → Nat} {w' : β → Nat} {fs gs : List TFld}
      (h1 : TfOK o r w fs) (ho : o + r.n = o') (h2 : TfOK o' s w' gs) : TfOK o (r.pair s) (szp w w') (fs ++ gs)

def putW (agg : Bool) (n : Nat) (p v : Value) (H : Heap) (k : Post) : Prop := match agg with | true => W.putN n p v H k | false => W.put p v H k

theorem putW_ok {agg : Bool} {n b o : Nat} {kb : Blk} {cs : List Value} {H : Heap} {k : Post} (hn : agg = false → n = 1) (hb : H.blk b = some kb) (hl : cs.length = n) (hc : cs.all isCell = true) (hro : kb.ro = false) (hlt : o + n ≤ kb.cells.length)
    (h : ∀ H', H.Wr b { kb with cells := kb.cells.take o ++ cs ++ kb.cells.drop (o + n) } H' → k undef H') : putW agg n (pt b o) (valOf agg cs) H k := by
  cases agg with
  | true => exact Wi.putN hb (by simpa using hl) (by simpa using hc) hro hlt (by simpa using h)
  | false =>
    have := hn rfl
    subst this
    obtain ⟨u, rfl⟩ := List.length_eq_one_iff.1 hl
    refine Wi.put hb (by simpa [valOf_one] using hc) hro (by omega) fun H' w => h H' ?_
    rw [List.set_eq_take_append_cons_drop, if_pos (by omega)] at w
    simpa [valOf_one] using w

def toFields (T : Heap → Prop) (p q : Value) : List TFld → Heap → Prop
  | [], H => T H
  | f :: fs, H => W.fieldAddr f.off p H fun a H => getW f.agg f.n a H fun u H => f.E u H fun u' H => W.fieldAddr f.off q H fun c H => putW f.agg f.n c u' H fun _ H => toFields T p q fs H

theorem toFields_append {T : Heap → Prop} {p q : Value} (gs : List TFld) : ∀ (fs : List TFld), toFields T p q (fs ++ gs) = toFields (toFields T p q gs) p q fs
  | [] => by funext H; simp [toFields]
  | f :: fs => by
    have ih := toFields_append (T := T) (p := p) (q := q) gs fs
    funext H
    simp only [List.cons_append, toFields, ih]

theorem toFields_ok {o : Nat} {α : Type} {r : Rd α} {w : α → Nat} {fs : List TFld} (h : TfOK o r w fs) : ∀ {H : Heap} {b q : Nat} {kb kq : Blk} {bs : List Nat} {x : α} {T : Heap → Prop},
    H.blk b = some kb → b < H.next → o + r.n ≤ kb.cells.length → r.rel H bs ((kb.cells.drop o).take r.n) x → w x ≤ 1048576 →
    H.blk q = some kq → q < H.next → b ≠ q → q ∉ bs → kq.ro = false → o + r.n ≤ kq.cells.length →
    (∀ H' cs' bs', H.LeBut q H' → H'.blk q = some { kq with cells := kq.cells.take o ++ cs' ++ kq.cells.drop (o + r.n) } → r.rel H' bs' cs' x → bs'.Nodup → (∀ c ∈ bs', H.next ≤ c) → RW H' bs' → T H') →
    toFields T (pt b 0) (pt q 0) fs H := by
  induction h with
  | one hn ha h =>
    subst hn
    rename_i r w agg E
    intro H b q kb kq bs x T g1 g2 g3 g4 g5 g6 g7 g8 g9 g10 g11 hT
    refine Wi.fieldAddr0 (getW_ok ha g1 g3 (h _ _ _ _ _ g4 g5 fun H1 cs' F => ?_))
    obtain ⟨bs', p1, p2, p3, p4⟩ := F.has
    refine Wi.fieldAddr0 (putW_ok ha (F.le.at g6 g7) (r.len p1) (r.cell p1) g10 g11 fun H2 w2 => ?_)
    have ne : ∀ c ∈ bs', c ≠ q := fun c hc e => by have := p3 c hc; omega
    refine hT H2 cs' bs' ⟨by rw [w2.next]; exact F.le.next, fun c hc hcq => by rw [w2.off c hcq, F.le.blk c hc]⟩ w2.here (r.frame p1 (by rw [w2.next]; exact Nat.le_refl _) fun c hc => w2.off c (ne c hc)) p2 p3 fun c hc kc hk => p4 c hc kc (by rw [← w2.off c (ne c hc)]; exact hk)
  | pair h1 ho h2 ih1 ih2 =>
    subst ho
    rename_i o r s w w' fs gs
    intro H b q kb kq bs x T g1 g2 g3 g4 g5 g6 g7 g8 g9 g10 g11 hT
    simp only [Rd.pair] at g3 g11
    simp only [szp] at g5
    obtain ⟨p1, p2, hp, q1, q2⟩ := Rd.pair_split g4
    subst hp
    simp only [List.mem_append, not_or] at g9
    rw [toFields_append]
    refine ih1 g1 g2 (by omega) q1 (by omega) g6 g7 g8 g9.1 g10 (by omega) fun H1 c1 b1 l1 k1 r1 nd1 lo1 rw1 => ?_
    have hl1 := r.len r1
    refine ih2 (b := b) (kb := kb) (by rw [l1.blk b g2 g8]; exact g1) (Nat.lt_of_lt_of_le g2 l1.next) (by omega) (Rd.leBut _ q2 l1 g9.2) (by omega) k1 (Nat.lt_of_lt_of_le g7 l1.next) g8 g9.2 g10 (by simp [hl1]; omega) fun H2 c2 b2 l2 k2 r2 nd2 lo2 rw2 => ?_
    have hl2 := s.len r2
    have low1 := r.low r1
    refine hT H2 (c1 ++ c2) (b1 ++ b2) ⟨Nat.le_trans l1.next l2.next, fun c hc hcq => by rw [l2.blk c (Nat.lt_of_lt_of_le hc l1.next) hcq, l1.blk c hc hcq]⟩ ?_
      ⟨b1, b2, c1, c2, rfl, rfl, Rd.leBut _ r1 l2 (fun hq => by have := lo1 q hq; omega), r2⟩ (List.nodup_append.2 ⟨nd1, nd2, fun c hc d hd' e => by have := low1 c hc; have := lo2 d hd'; omega⟩)
      (fun c hc => (List.mem_append.1 hc).elim (lo1 c) fun hc => Nat.le_trans l1.next (lo2 c hc)) fun c hc kc hk => ?_
    · rw [k2]
      congr 2
      simp only [Rd.pair]
      have t1 : (kq.cells.take o ++ c1 ++ kq.cells.drop (o + r.n)).take (o + r.n) = kq.cells.take o ++ c1 := by
        rw [List.take_append_of_le_length (by simp [hl1]; omega), List.take_of_length_le (by simp [hl1]; omega)]
      have t2 : (kq.cells.take o ++ c1 ++ kq.cells.drop (o + r.n)).drop (o + r.n + s.n) = kq.cells.drop (o + (r.n + s.n)) := by
        have hlen : (kq.cells.take o ++ c1).length = o + r.n := by simp [hl1]; omega
        rw [← hlen, List.drop_append, hlen, List.drop_of_length_le (by rw [hlen]; omega), List.nil_append, List.drop_drop]
        congr 1
        omega
      rw [t1, t2]
      simp
    · rcases List.mem_append.1 hc with hc | hc
      · rw [l2.blk c (low1 c hc) (fun e => by have := lo1 c hc; omega)] at hk
        exact rw1 c hc kc hk
      · exact rw2 c hc kc hk

def toStructW (n : Nat) (ty ty' : TypeId) (zero : List Value) (fs : List TFld) (Q : Post) (a : Value) (H : Heap) : Prop :=
  W.box a ty H fun v1 H => W.new zero ty' H fun v2 H => W.new zero ty' H fun v3 H =>
    toFields (fun H => W.getN n v3 H fun x H => W.putN n v2 x H fun _ H => W.getN n v2 H fun x H => Q x H) v1 v3 fs H

theorem ToA.struct {α : Type} {P : Program} {f : FuncId} {r : Rd α} {w : α → Nat} {n : Nat} (hn : r.n = n) {ty ty' : TypeId} {zero : List Value} (hz : zero.length = n) {fs : List TFld} (h : TfOK 0 r w fs)
    (enter : ∀ (Q : Post) (a : Value) (H : Heap), toStructW n ty ty' zero fs Q a H → Runs P f #[a] H Q) : ToA P f r w := by
  subst hn
  intro H bs cs x Q h1 hw hQ
  refine enter _ _ _ (Wi.box fun H1 l1 n1 k1 => Wi.new fun H2 l2 n2 k2 => Wi.new fun H3 l3 n3 k3 => ?_)
  have e1 : cs.take r.n = cs := List.take_of_length_le (by rw [r.len h1]; exact Nat.le_refl _)
  have low := r.low h1
  refine toFields_ok h ((l2.trans l3).at k1 (by omega)) (by omega) (by simp [r.len h1]) (by simpa [e1] using Rd.le _ h1 (l1.trans (l2.trans l3))) hw k3 (by omega) (by omega) (fun hm => by have := low _ hm; omega) rfl (by simp [hz]) ?_
  intro H4 c4 b4 l4 k4 r4 nd4 lo4 rw4
  have hl4 := r.len r4
  have ecells : zero.take 0 ++ c4 ++ zero.drop (0 + r.n) = c4 := by simp [hz]
  simp only [ecells] at k4
  refine Wi.getA k4 hl4 (Wi.putN (b := H1.next) (kb := ⟨zero, ty', zero.length, false⟩) (by rw [l4.blk _ (by omega) (by omega)]; exact l3.at k2 (by omega)) (by simpa using hl4) (by simpa using r.cell r4) rfl (by simp [hz]) fun H5 w5 => Wi.getN w5.here (by simp [hl4]) ?_)
  have e5 : (((zero.take 0 ++ c4.toArray.toList ++ zero.drop (0 + r.n)).drop 0).take r.n) = c4 := by simp [hl4]
  rw [e5]
  have ne : ∀ c ∈ b4, c ≠ H1.next := fun c hc e => by have := lo4 c hc; omega
  refine hQ H5 c4 ⟨⟨by rw [w5.next]; have := l4.next; have := l1.next; omega, fun c hc => ?_⟩, b4, r.frame r4 (by rw [w5.next]; exact Nat.le_refl _) (fun c hc => w5.off c (ne c hc)), nd4, fun c hc => ?_, fun c hc kc hk => rw4 c hc kc (by rw [← w5.off c (ne c hc)]; exact hk)⟩
  · have := l1.next
    rw [w5.off c (by omega), l4.blk c (by omega) (by omega), l3.blk c (by omega), l2.blk c (by omega), l1.blk c hc]
  · have := lo4 c hc
    have := l1.next
    omega

end Go.Ab
