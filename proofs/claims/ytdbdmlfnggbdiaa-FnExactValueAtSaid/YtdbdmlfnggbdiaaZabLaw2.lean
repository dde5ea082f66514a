/- The laws' own helpers: marking and telling marks. -/
import Derived.Test.YtdbdmlfnggbdiaaZabLaw
namespace Go.Ab

/-! ### What marks come to -/
section
variable {α : Type} (mk : α → Int → α) (sz : α → Nat)

def mkl : List α → Int → List α
  | [], _ => []
  | x :: xs, k => mk x k :: mkl xs (k + sz x)

def szl : List α → Nat
  | [] => 0
  | x :: xs => sz x + szl xs

variable {mk sz}
theorem szl_append (xs ys : List α) : szl sz (xs ++ ys) = szl sz xs + szl sz ys := by
  induction xs with
  | nil => simp [szl]
  | cons x xs ih => simp [szl, ih, Nat.add_assoc]

theorem mkl_append (xs ys : List α) (k : Int) : mkl mk sz (xs ++ ys) k = mkl mk sz xs k ++ mkl mk sz ys (k + szl sz xs) := by
  induction xs generalizing k with
  | nil => simp [mkl, szl]
  | cons x xs ih => simp [mkl, szl, ih, Int.add_assoc]

theorem mkl_length (xs : List α) (k : Int) : (mkl mk sz xs k).length = xs.length := by
  induction xs generalizing k with
  | nil => rfl
  | cons x xs ih => simp [mkl, ih]
end

/-- None of these blocks is one that is never written. -/
def RW (H : Heap) (bs : List Nat) : Prop := ∀ c ∈ bs, ∀ kc, H.blk c = some kc → kc.ro = false

/-- Marks have been put. -/
structure Marked {α : Type} (r : Rd α) (H : Heap) (bs : List Nat) (cs : List Value) (y : α) (H' : Heap) : Prop where
  next : H.next ≤ H'.next
  rel : r.rel H' bs cs y
  off : ∀ c, c < H.next → c ∉ bs → H'.blk c = H.blk c
  rw : RW H' bs

/-- Marking by a call. -/
def MarkC {α : Type} (P : Program) (f : FuncId) (r : Rd α) (mk : α → Int → α) (sz : α → Nat) : Prop :=
  ∀ H bs v x (k : Int) (Q : Post), r.rel H bs [v] x → bs.Nodup → RW H bs → 0 ≤ k → k + sz x < 4611686018427387904 →
    (∀ H', Marked r H bs [v] (mk x k) H' → Q (.int .i64 (k + sz x)) H') → Runs P f #[v, .int .i64 k] H Q

abbrev Mrk := Value → Value → Heap → Post → Prop

/-- Marking an element where it lies. -/
def MarkE {α : Type} (r : Rd α) (mk : α → Int → α) (sz : α → Nat) (M : Mrk) : Prop :=
  ∀ H b o kb bs x (k : Int) (K : Post), H.blk b = some kb → b < H.next → kb.ro = false → o + r.n ≤ kb.cells.length → r.rel H bs ((kb.cells.drop o).take r.n) x → b ∉ bs → bs.Nodup → RW H bs →
    0 ≤ k → k + sz x < 4611686018427387904 →
    (∀ H' cs', H.next ≤ H'.next → H'.blk b = some { kb with cells := kb.cells.take o ++ cs' ++ kb.cells.drop (o + r.n) } → r.rel H' bs cs' (mk x k) →
      (∀ c, c < H.next → c ≠ b → c ∉ bs → H'.blk c = H.blk c) → RW H' bs → K (.int .i64 (k + sz x)) H') → M (pt b o) (.int .i64 k) H K

theorem MarkE.int : MarkE Rd.int (fun _ k => k) (fun _ => 1) (fun p k H K => W.put p k H fun _ H => W.bin .add k (.int .i64 1) H K) := by
  intro H b o kb bs x k K hb hlt hro hl hr hbs _ _ hk hs hK
  obtain ⟨rfl, _, _⟩ := hr
  refine Wi.put hb rfl hro (by simp only [Rd.int] at hl; omega) fun H' w => ?_
  have hs' : k + 1 < 4611686018427387904 := hs
  have hk' : I64 k := by unfold I64; omega
  refine Wi.add (by unfold I64; omega) (hK H' [.int .i64 k] (by rw [w.next]; exact Nat.le_refl _) ?_ ⟨rfl, rfl, hk'⟩ (fun c _ hc _ => w.off c hc) (fun c hc => by cases hc))
  rw [w.here]
  congr 2
  simp only [Rd.int] at hl ⊢
  rw [List.set_eq_take_append_cons_drop, if_pos (by omega)]
  simp

theorem cells_put {n : Nat} {cells cs : List Value} {o i j : Nat} (hc : cs.length = n) (hl : o + i * n + n ≤ cells.length) :
    cellsAt n (cells.take (o + i * n) ++ cs ++ cells.drop (o + i * n + n)) o j = if j = i then cs else cellsAt n cells o j := by
  have hlt : (cells.take (o + i * n)).length = o + i * n := by simp; omega
  split
  · rename_i h
    subst h
    unfold cellsAt
    rw [List.append_assoc, List.drop_append_of_le_length (by omega), List.drop_of_length_le (by omega), List.nil_append, List.take_append_of_le_length (by omega), List.take_of_length_le (by omega)]
  · rename_i h
    unfold cellsAt
    apply List.ext_getElem?
    intro m
    rw [List.getElem?_take, List.getElem?_take]
    split
    · rename_i hm
      rw [List.getElem?_drop, List.getElem?_drop, List.append_assoc]
      rcases Nat.lt_or_gt_of_ne h with hji | hji
      · have : (j + 1) * n ≤ i * n := Nat.mul_le_mul_right _ hji
        rw [Nat.succ_mul] at this
        rw [List.getElem?_append_left (by omega), List.getElem?_take, if_pos (by omega)]
      · have : (i + 1) * n ≤ j * n := Nat.mul_le_mul_right _ hji
        rw [Nat.succ_mul] at this
        rw [List.getElem?_append_right (by omega), List.getElem?_append_right (by omega), List.getElem?_drop, hlt, hc]
        congr 1
        omega
    · rfl

theorem flat_nodup {fs : Nat → List Nat} {n : Nat} (h : ((List.range n).flatMap fs).Nodup) {i j : Nat} (hi : i < n) (hj : j < n) : (fs i).Nodup ∧ (i ≠ j → ∀ c ∈ fs i, c ∉ fs j) := by
  have h' := List.pairwise_flatMap.1 h
  refine ⟨h'.1 i (by simpa using hi), fun hne c hc hcj => ?_⟩
  have hp := List.pairwise_iff_getElem.1 h'.2
  rcases Nat.lt_or_gt_of_ne hne with h1 | h1
  · have := hp i j (by simpa using hi) (by simpa using hj) h1
    simp only [List.getElem_range] at this
    exact this c hc c hcj rfl
  · have := hp j i (by simpa using hj) (by simpa using hi) h1
    simp only [List.getElem_range] at this
    exact this c hcj c hc rfl

def markSliceW (n1 n2 sz : Nat) (M : Mrk) (Q : Post) (a k : Value) (H : Heap) : Prop :=
  W.loop (S := St [n1, n2]) (fun I s H => W.len a H fun v1 H => W.bin .lss s.2.1 v1 H fun v2 H => W.cond v2 H
    (fun H => W.indexAddr sz a s.2.1 H fun v3 H => M v3 s.1 H (fun k' H => W.bin .add s.2.1 (.int .i64 1) H fun v5 H => I (k', v5, ()) H))
    (fun H => Q s.1 H)) (k, .int .i64 0, ()) H

theorem markSlice_ok {α : Type} {r : Rd α} {mk : α → Int → α} {sz : α → Nat} {M : Mrk} (hM : MarkE r mk sz M) {n1 n2 : Nat} {Q : Post} {H : Heap} {bs : List Nat} {a : Value} {xs : List α} {k : Int}
    (h : (Rd.slice r).rel H bs [a] xs) (hnd : bs.Nodup) (hrw : RW H bs) (hk : 0 ≤ k) (hs : k + szl sz xs < 4611686018427387904)
    (hQ : ∀ H', Marked (Rd.slice r) H bs [a] (mkl mk sz xs k) H' → Q (.int .i64 (k + szl sz xs)) H') : markSliceW n1 n2 r.n M Q a (.int .i64 k) H := by
  have hx := Rd.slice_small h
  unfold markSliceW
  refine W.loop_rule (fun s H' => ∃ zs ws, xs = zs ++ ws ∧ s = (.int .i64 (k + szl sz zs), .int .i64 zs.length, ()) ∧ Marked (Rd.slice r) H bs [a] (mkl mk sz zs k ++ ws) H')
    (fun s _ => match s.2.1 with | .int _ i => xs.length - i.toNat | _ => 0) ⟨[], xs, rfl, by simp [szl]; rfl, by simp [mkl]; exact ⟨Nat.le_refl _, h, fun _ _ _ => rfl, hrw⟩⟩ ?_
  rintro s H1 ⟨zs, ws, hxs, rfl, m⟩
  obtain ⟨p1, e1, g1⟩ := Rd.slice_val m.rel
  simp only [List.cons.injEq, and_true] at g1
  have hlen : (mkl mk sz zs k ++ ws).length = xs.length := by rw [hxs]; simp [mkl_length]
  rw [g1]
  simp only
  refine Wi.len (Wi.lss (Wi.cond (fun hlt => ?_) fun hge => ?_))
  · have hz : zs.length < xs.length := by
      simp only [decide_eq_true_eq, hlen] at hlt; omega
    cases ws with
    | nil => rw [hxs] at hz; simp at hz
    | cons x ws =>
      obtain ⟨b, o, e, kb, fs, q1, q2, s⟩ := Rd.slice_at m.rel (i := zs.length) (by rw [hlen]; exact hz)
      rw [← g1, q1]
      have hin := s.in (i := zs.length) (by rw [hlen]; exact hz)
      have hel := s.each zs.length (by rw [hlen]; exact hz)
      have hget : (mkl mk sz zs k ++ x :: ws)[zs.length]'(by rw [hlen]; exact hz) = x := by
        rw [List.getElem_append_right (by rw [mkl_length]; exact Nat.le_refl _)]
        simp [mkl_length]
      rw [hget] at hel
      have hbnd : bs.Nodup := hnd
      rw [q2] at hbnd
      have hbn := List.nodup_cons.1 hbnd
      have hfl : ∀ j, j < xs.length → (fs j).Nodup ∧ (∀ c ∈ fs j, c ∈ bs) ∧ b ∉ fs j ∧ (j ≠ zs.length → ∀ c ∈ fs j, c ∉ fs zs.length) := fun j hj => by
        have hj' : j < (mkl mk sz zs k ++ x :: ws).length := by rw [hlen]; exact hj
        have hz' : zs.length < (mkl mk sz zs k ++ x :: ws).length := by rw [hlen]; exact hz
        have hmem : ∀ c ∈ fs j, c ∈ (List.range (mkl mk sz zs k ++ x :: ws).length).flatMap fs := fun c hc => List.mem_flatMap.2 ⟨j, by simpa using hj', hc⟩
        obtain ⟨f1, f2⟩ := flat_nodup hbn.2 hj' hz'
        exact ⟨f1, fun c hc => by rw [q2]; exact List.mem_cons_of_mem _ (hmem c hc), fun hc => hbn.1 (hmem b hc), f2⟩
      obtain ⟨f1, f2, f3, _⟩ := hfl zs.length hz
      have hszs : szl sz xs = szl sz zs + (sz x + szl sz ws) := by rw [hxs, szl_append]; rfl
      refine Wi.index (by rw [hlen]; exact hz) (hM H1 b _ kb (fs zs.length) x _ _ s.blk s.lt (m.rw b (by rw [q2]; simp) kb s.blk) hin hel f3 f1 (fun c hc => m.rw c (f2 c hc)) (by omega) (by omega) ?_)
      intro H2 cs' hn hb2 hr2 hoff hrw2
      refine Wi.add (by unfold I64; omega) ⟨⟨zs ++ [x], ws, by rw [hxs]; simp, ?_, ?_⟩, ?_⟩
      · simp [szl_append, szl, Int.add_assoc]
        rfl
      · have hmk : mkl mk sz (zs ++ [x]) k ++ ws = (mkl mk sz zs k ++ x :: ws).set zs.length (mk x (k + szl sz zs)) := by
          rw [mkl_append, List.set_append_right _ _ (by rw [mkl_length]; exact Nat.le_refl _)]
          simp [mkl, mkl_length]
        rw [hmk]
        have hcl : cs'.length = r.n := r.len hr2
        refine ⟨Nat.le_trans m.next hn, ?_, fun c hc hcb => ?_, ?_⟩
        · refine .inr ⟨b, o, e, _, fs, by rw [List.length_set]; exact q2, by rw [List.length_set]; first | done | rw [q1], ⟨Nat.lt_of_lt_of_le s.lt hn, hb2, by rw [List.length_set]; exact s.cap, by rw [List.length_set]; exact s.small, ?_, fun j hj => ?_⟩⟩
          · rw [List.length_set]
            have hL : (kb.cells.take (o + zs.length * r.n) ++ cs' ++ kb.cells.drop (o + zs.length * r.n + r.n)).length = kb.cells.length := by
              simp only [List.length_append, List.length_take, List.length_drop, hcl]
              omega
            simp only [hL]
            exact s.room
          · rw [List.length_set] at hj
            rw [cells_put hcl hin]
            by_cases hji : j = zs.length
            · subst hji
              rw [if_pos rfl]
              simp only [List.getElem_set_self]
              exact hr2
            · rw [if_neg hji]
              rw [List.getElem_set_ne (fun h => hji h.symm)]
              refine r.frame (s.each j hj) hn fun c hc => ?_
              obtain ⟨_, _, g3, g4⟩ := hfl j (by rw [← hlen]; exact hj)
              exact hoff c (r.low (s.each j hj) c hc) (fun h => g3 (h ▸ hc)) (g4 hji c hc)
        · rw [← m.off c hc hcb]
          refine hoff c (Nat.lt_of_lt_of_le hc m.next) (fun h => hcb (by rw [h, q2]; simp)) fun h => hcb (f2 c h)
        · intro c hc kc hkc
          by_cases hcb : c = b
          · subst hcb
            rw [hb2] at hkc
            cases hkc
            exact m.rw c hc kb s.blk
          · by_cases hcf : c ∈ fs zs.length
            · exact hrw2 c hcf kc hkc
            · rw [hoff c ((Rd.slice r).low m.rel c hc) hcb hcf] at hkc
              exact m.rw c hc kc hkc
      · simp only
        simp
        omega
  · have hz : zs.length = xs.length := by
      have : zs.length ≤ xs.length := by rw [hxs]; simp
      simp only [decide_eq_false_iff_not, hlen] at hge
      omega
    have : ws = [] := by
      rw [hxs] at hz
      simp at hz
      exact hz
    subst this
    rw [List.append_nil] at hxs m
    subst hxs
    exact hQ H1 m

end Go.Ab
