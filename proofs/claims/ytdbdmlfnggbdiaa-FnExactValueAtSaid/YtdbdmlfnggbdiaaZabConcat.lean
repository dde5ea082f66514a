/- slices.Grow and slices.Concat. -/
import Derived.Test.YtdbdmlfnggbdiaaZabLoop
namespace Go.Ab

def growW (zc : List Value) (sz : Nat) (ty : TypeId) (Q : Post) (s n : Value) (H : Heap) : Prop :=
  W.bin .lss n (.int .i64 0) H fun v1 H => W.cond v1 H (fun H => W.no H) (fun H => W.cap s H fun v2 H => W.len s H fun v3 H => W.bin .sub v2 v3 H fun v4 H => W.bin .sub n v4 H fun v5 H =>
    W.bin .gtr v5 (.int .i64 0) H fun v6 H => W.cond v6 H (fun H => W.cap s H fun v7 H => W.slice sz s none (some v7) H fun v8 H => W.appendZ zc ty v8 v5 H fun v9 H => W.len s H fun v10 H => W.slice sz v9 none (some v10) H fun v11 H => Q v11 H) (fun H => Q s H))

def GrowF (P : Program) (f : FuncId) (zc : List Value) (sz : Nat) (ty : TypeId) : Prop :=
  ∀ (Q : Post) (s n : Value) (H : Heap), growW zc sz ty Q s n H → Runs P f #[s, n] H Q

theorem grow_nil {zc : List Value} {ty : TypeId} {Q : Post} {m : Nat} {H : Heap} (hm : m ≤ 16777216) (h0 : m = 0 → Q (.slice none 0 0) H)
    (h1 : 0 < m → ∀ H', H.Le H' → H'.next = H.next + 1 → H'.blk H.next = some ⟨reps m zc, ty, zc.length, false⟩ → Q (.slice (some (adr H.next 0)) 0 (2 * m + 1)) H') : growW zc zc.length ty Q (.slice none 0 0) (.int .i64 m) H := by
  unfold growW
  refine Wi.lssC (fun h => by omega) fun _ => Wi.fls ⟨rfl, Wi.len (Wi.sub (by unfold I64; simp) (Wi.sub (by unfold I64; simp; omega) ?_))⟩
  have e : (m : Int) - (((0 / 2 : Nat) : Int) - ((0 : Nat) : Int)) = m := by simp
  rw [e]
  refine Wi.gtrC (fun h => Wi.tru ⟨rfl, ?_⟩) fun h => Wi.fls (h0 (by omega))
  have hpos : 0 < m := by omega
  refine ⟨by simp, by simp, by simp, by omega, by omega, ?_⟩
  unfold appendTo
  simp only [Int.toNat_natCast]
  rw [if_neg (by omega)]
  refine ⟨by omega, ?_⟩
  simp only [oldCells, Nat.zero_add, List.nil_append, if_true]
  refine Wi.len ⟨by simp, by simp, by omega, ?_⟩
  simp only []
  rw [if_neg (by simp; omega), if_pos (by simp)]
  exact h1 hpos _ ⟨by simp [Heap.alloc], fun b hb => by simp only [Heap.alloc]; rw [if_neg (by omega)]⟩ rfl (by simp [Heap.alloc])

def concatW (P : Program) (g : FuncId) (n1 n2 n3 n4 sz : Nat) (ty : TypeId) (Q : Post) (a : Value) (H : Heap) : Prop :=
  W.len a H fun v1 H => W.loop (S := St [n1, n2]) (fun I s H => W.bin .lss s.2.1 v1 H fun v2 H => W.cond v2 H
    (fun H => W.indexAddr 1 a s.2.1 H fun v3 H => W.get v3 H fun v4 H => W.len v4 H fun v5 H => W.bin .add s.1 v5 H fun v6 H => W.bin .lss v6 (.int .i64 0) H fun v7 H => W.cond v7 H (fun H => W.no H)
      (fun H => W.bin .add s.2.1 (.int .i64 1) H fun v8 H => I (v6, v8, ()) H))
    (fun H => W.call P (.func (.func g) #[] #[]) #[.slice none 0 0, s.1] H fun v9 H => W.len a H fun v10 H => W.loop (S := St [n3, n4]) (fun I s H => W.bin .lss s.2.1 v10 H fun v11 H => W.cond v11 H
      (fun H => W.indexAddr 1 a s.2.1 H fun v12 H => W.get v12 H fun v13 H => W.append sz ty s.1 v13 H fun v14 H => W.bin .add s.2.1 (.int .i64 1) H fun v15 H => I (v14, v15, ()) H)
      (fun H => Q s.1 H)) (v9, .int .i64 0, ()) H)) (.int .i64 0, .int .i64 0, ()) H

/-- What stands behind a Concat: a new block whose elements are those of the parts. -/
structure Joined {α : Type} (r : Rd α) (ty : TypeId) (n : Nat) (H : Heap) (u : Value) (ys : List α) (H' : Heap) : Prop where
  le : H.Le H'
  has : (u = .slice none 0 0 ∧ n = 0 ∧ ys = []) ∨ ∃ (b : Nat) (kb : Blk) (fs : Nat → List Nat), 0 < n ∧ u = .slice (some (adr b 0)) ys.length (2 * n + 1) ∧ ys.length ≤ n ∧ n ≤ 16777216 ∧ H.next ≤ b ∧ b < H'.next ∧ H'.blk b = some kb ∧ kb.ro = false ∧ kb.ty = ty ∧ kb.esz = r.n ∧
    kb.cells.length = n * r.n ∧ kb.cells.all isCell = true ∧ ∀ i (h : i < ys.length), r.rel H' (fs i) (cellsAt r.n kb.cells 0 i) ys[i] ∧ ∀ c ∈ fs i, c < H.next

theorem cellsAt_mid {sz n m : Nat} {cells new : List Value} (hnew : new.length = m * sz) (hl : (n + m) * sz ≤ cells.length) (i : Nat) :
    (i < n → cellsAt sz (cells.take (n * sz) ++ new ++ cells.drop (n * sz + new.length)) 0 i = cellsAt sz cells 0 i) ∧
    (n ≤ i → i < n + m → cellsAt sz (cells.take (n * sz) ++ new ++ cells.drop (n * sz + new.length)) 0 i = cellsAt sz new 0 (i - n)) := by
  rw [Nat.add_mul] at hl
  have ht : (cells.take (n * sz)).length = n * sz := by simp; omega
  constructor
  · intro hi
    have h1 : (i + 1) * sz ≤ n * sz := Nat.mul_le_mul_right _ hi
    rw [Nat.succ_mul] at h1
    rw [List.append_assoc, cellsAt_append_left (by omega)]
    unfold cellsAt
    rw [Nat.zero_add, List.drop_take, List.take_take, Nat.min_eq_left (by omega)]
  · intro h1 h2
    have h3 : (i + 1) * sz ≤ (n + m) * sz := Nat.mul_le_mul_right _ h2
    rw [Nat.succ_mul, Nat.add_mul] at h3
    rw [cellsAt_append_left (by simp; omega), cellsAt_append_right ht h1]

theorem concat_ok {α : Type} {P : Program} {r : Rd α} {g : FuncId} {zc : List Value} {n1 n2 n3 n4 : Nat} {ty : TypeId} (hg : GrowF P g zc zc.length ty) (hzc : zc.length = r.n) (hzl : zc.all isCell = true) {Q : Post} {H : Heap} {a : Value} {xss : List (List α)}
    (h : Has (Rd.slice (Rd.slice r)) H [a] xss) (hlen : xss.flatten.length ≤ 16777216) (hQ : ∀ H' u, Joined r ty xss.flatten.length H u xss.flatten H' → Q u H') : concatW P g n1 n2 n3 n4 r.n ty Q a H := by
  have hsm : xss.length < 9223372036854775808 := let ⟨_, h⟩ := h; Rd.slice_small h
  have flat_take : ∀ i, i < xss.length → (xss.take (i + 1)).flatten = (xss.take i).flatten ++ (xss[i]?).getD [] := fun i hi => by
    rw [List.take_succ_eq_append_getElem hi, List.flatten_append]
    simp [List.getElem?_eq_getElem hi]
  have flat_le : ∀ i, (xss.take i).flatten.length ≤ xss.flatten.length := fun i => by
    have e : xss.flatten = (xss.take i).flatten ++ (xss.drop i).flatten := by rw [← List.flatten_append, List.take_append_drop]
    rw [e, List.length_append]
    omega
  unfold concatW
  refine Wl.lenH h ?_
  refine W.for_rule xss.length (fun i s H' => s = (.int .i64 ((xss.take i).flatten.length : Nat), .int .i64 (i : Nat), ()) ∧ H' = H) ⟨rfl, rfl⟩ ?_
  rintro i s H1 J hi ⟨rfl, rfl⟩ hJ
  simp only
  refine Wi.lssC (fun hlt => Wi.tru ?_) fun hge => Wi.fls ?_
  · have hix : i < xss.length := by omega
    refine Wl.at1H rfl h hix fun u hu => Wl.lenH hu ?_
    have e1 := flat_take i hix
    rw [List.getElem?_eq_getElem hix, Option.getD_some] at e1
    have e2 : (xss.take i).flatten.length + xss[i].length = (xss.take (i + 1)).flatten.length := by rw [e1, List.length_append]
    have e3 := flat_le (i + 1)
    refine Wi.add (by unfold I64; omega) (Wi.lssC (fun h => by omega) fun _ => Wi.fls (Wi.add (by unfold I64; omega) (hJ _ _ hix ⟨?_, rfl⟩)))
    have e4 : (((xss.take i).flatten.length : Nat) : Int) + (xss[i].length : Nat) = ((xss.take (i + 1)).flatten.length : Nat) := by omega
    rw [e4]
    rfl
  · have hie : i = xss.length := by omega
    subst hie
    rw [List.take_length]
    -- what is appended to
    have tail : ∀ (v9 : Value) (H2 : Heap), Joined r ty xss.flatten.length H1 v9 [] H2 → W.len a H2 fun v10 H => W.loop (S := St [n3, n4]) (fun I s H => W.bin .lss s.2.1 v10 H fun v11 H => W.cond v11 H
        (fun H => W.indexAddr 1 a s.2.1 H fun v12 H => W.get v12 H fun v13 H => W.append r.n ty s.1 v13 H fun v14 H => W.bin .add s.2.1 (.int .i64 1) H fun v15 H => I (v14, v15, ()) H)
        (fun H => Q s.1 H)) (v9, .int .i64 0, ()) H := by
      intro v9 H2 j0
      refine Wl.lenH (h.le j0.le) ?_
      refine W.for_rule xss.length (fun i s H' => ∃ v, s = (v, .int .i64 (i : Nat), ()) ∧ Joined r ty xss.flatten.length H1 v (xss.take i).flatten H') ⟨v9, rfl, by simpa using j0⟩ ?_
      rintro i s H3 J2 hi ⟨v, rfl, j⟩ hJ2
      simp only
      refine Wi.lssC (fun hlt => Wi.tru ?_) fun hge => Wi.fls ?_
      · have hix : i < xss.length := by omega
        obtain ⟨bs, ha⟩ := h
        obtain ⟨c1, o1, E1, k1, f1, q1, q1', s1⟩ := Rd.slice_at (Rd.le _ ha j.le) hix
        obtain ⟨u1, m1, ru⟩ := s1.one rfl hix
        rw [q1]
        refine Wi.index hix (Wi.get s1.blk m1 ?_)
        have lowu : ∀ c ∈ f1 i, c < H1.next := fun c hc => (Rd.slice (Rd.slice r)).low ha c (by rw [q1', List.mem_cons, List.mem_flatMap]; exact .inr ⟨i, by simpa using hix, hc⟩)
        have e1 := flat_take i hix
        rw [List.getElem?_eq_getElem hix, Option.getD_some] at e1
        have e2 : (xss.take i).flatten.length + xss[i].length = (xss.take (i + 1)).flatten.length := by rw [e1, List.length_append]
        have e3 := flat_le (i + 1)
        have hadd : ∀ v' H', Joined r ty xss.flatten.length H1 v' ((xss.take i).flatten ++ xss[i]) H' → W.bin .add (.int .i64 (i : Nat)) (.int .i64 1) H' fun v15 H => J2 (v', v15, ()) H := fun v' H' j' =>
          Wi.add (by unfold I64; omega) (hJ2 _ _ hix ⟨v', rfl, by rw [e1]; exact j'⟩)
        rcases Nat.eq_zero_or_pos xss[i].length with hz | hz
        · have hnil : xss[i] = [] := List.eq_nil_of_length_eq_zero hz
          rw [hnil] at ru hadd
          simp only [List.append_nil] at hadd
          unfold W.append
          rw [src_nil ru]
          simp only []
          rcases j.has with ⟨rfl, _, _⟩ | ⟨b, kb, fs, _, rfl, _⟩
          · unfold appendTo
            simp only [Nat.add_zero, Nat.zero_div, Nat.le_refl, if_true]
            exact hadd _ _ j
          · unfold appendTo
            simp only [Nat.add_zero]
            rw [if_pos (by omega)]
            simp only [if_true]
            exact hadd _ _ j
        · obtain ⟨new, gs, t1, t2, t3, b', t4⟩ := src_has ru hz
          have lowg : ∀ k, k < xss[i].length → ∀ c ∈ gs k, c < H1.next := fun k hk c hc => lowu c (by rw [t4, List.mem_cons, List.mem_flatMap]; exact .inr ⟨k, by simpa using hk, hc⟩)
          rcases j.has with ⟨_, hn, _⟩ | ⟨b, kb, fs, p1, rfl, p3, p4, p5, p6, p7, p8, p9, p10, p11, p12, p13⟩
          · omega
          · unfold W.append
            rw [t1]
            simp only []
            unfold appendTo
            simp only []
            rw [if_pos (by omega), if_neg (by omega)]
            have hroom : ((xss.take i).flatten.length + xss[i].length) * r.n ≤ kb.cells.length := by rw [p11]; exact Nat.mul_le_mul_right _ (by omega)
            have hset : H3.setN ((adr b 0).add ((xss.take i).flatten.length * r.n)) new = some (H3.setBlk b (some { kb with cells := kb.cells.take ((xss.take i).flatten.length * r.n) ++ new ++ kb.cells.drop ((xss.take i).flatten.length * r.n + new.length) })) := by
              rw [adr_add]
              simp only [Heap.setN, p7, Nat.zero_add]
              rw [Nat.add_mul] at hroom
              rw [if_pos]
              simp only [cells_all t2 t3, p8, Bool.not_false, Bool.and_self, Bool.true_and, decide_eq_true_eq]
              omega
            rw [hset]
            simp only []
            refine hadd _ _ ⟨⟨j.le.next, fun c hc => ?_⟩, .inr ⟨b, { kb with cells := kb.cells.take ((xss.take i).flatten.length * r.n) ++ new ++ kb.cells.drop ((xss.take i).flatten.length * r.n + new.length) }, fun k => if k < (xss.take i).flatten.length then fs k else gs (k - (xss.take i).flatten.length), p1, by rw [List.length_append], by rw [List.length_append]; omega, p4, p5, p6, by simp [Heap.setBlk], p8, p9, p10, ?_, ?_, fun k hk => ?_⟩⟩
            · simp only [Heap.setBlk]
              rw [if_neg (by omega)]
              exact j.le.blk c hc
            · rw [Nat.add_mul] at hroom
              simp only [List.length_append, List.length_take, List.length_drop]
              omega
            · simp only [List.all_append, cells_all t2 t3, Bool.and_true, Bool.and_eq_true]
              rw [List.all_eq_true] at p12 ⊢
              refine ⟨fun x hx => p12 x (List.mem_of_mem_take hx), ?_⟩
              rw [List.all_eq_true]
              exact fun x hx => p12 x (List.mem_of_mem_drop hx)
            · have hfr : ∀ fs' : List Nat, (∀ c ∈ fs', c < H1.next) → ∀ c ∈ fs', (H3.setBlk b (some { kb with cells := kb.cells.take ((xss.take i).flatten.length * r.n) ++ new ++ kb.cells.drop ((xss.take i).flatten.length * r.n + new.length) })).blk c = H3.blk c := fun fs' hl c hc => by
                have := hl c hc
                simp only [Heap.setBlk]
                rw [if_neg (by omega)]
              have hmid := cellsAt_mid t2 hroom k
              rw [List.length_append] at hk
              by_cases hkn : k < (xss.take i).flatten.length
              · simp only [if_pos hkn]
                rw [hmid.1 hkn, List.getElem_append_left hkn]
                exact ⟨r.frame (p13 k hkn).1 (by simp [Heap.setBlk]) (hfr _ (p13 k hkn).2), (p13 k hkn).2⟩
              · simp only [if_neg hkn]
                rw [hmid.2 (by omega) hk, List.getElem_append_right (by omega)]
                exact ⟨r.frame (t3 _ (by omega)) (by simp [Heap.setBlk]) (hfr _ (lowg _ (by omega))), lowg _ (by omega)⟩
      · have hie : i = xss.length := by omega
        subst hie
        rw [List.take_length] at j
        exact hQ _ _ j
    refine Wi.call (hg _ _ _ _ (grow_nil (by omega) (fun h0 => tail _ _ ⟨.refl _, .inl ⟨rfl, h0, rfl⟩⟩) fun hpos H2 l2 n2 k2 => tail _ _ ⟨l2, .inr ⟨H1.next, _, fun _ => [], hpos, rfl, by simp, by omega, Nat.le_refl _, by omega, k2, rfl, rfl, hzc, ?_, ?_, fun i hi => by simp at hi⟩⟩))
    · simp [reps_length, hzc]
    · rw [List.all_eq_true]
      intro c hc
      simp only [reps, List.mem_flatten, List.mem_replicate] at hc
      obtain ⟨l, ⟨_, rfl⟩, hc⟩ := hc
      exact List.all_eq_true.1 hzl c hc

theorem Joined.read {α : Type} {r : Rd α} {ty : TypeId} {H H' : Heap} {u : Value} {ys : List α} (j : Joined r ty ys.length H u ys H') : Has (Rd.slice r) H' [u] ys := by
  rcases j.has with ⟨rfl, _, rfl⟩ | ⟨b, kb, fs, p1, rfl, p3, p4, p5, p6, p7, p8, p9, p10, p11, p12, p13⟩
  · exact ⟨[], .inl ⟨rfl, rfl, .inl rfl⟩⟩
  · exact ⟨_, .inr ⟨b, 0, _, kb, fs, rfl, rfl, ⟨p6, p7, by omega, by omega, by omega, fun i hi => (p13 i hi).1⟩⟩⟩

theorem Joined.plain {α : Type} {r : Rd α} [p : Plain r] {ty : TypeId} {H H' : Heap} {u : Value} {ys : List α} (j : Joined r ty ys.length H u ys H') : FreshG r ty H u ys H' := by
  refine ⟨j.le, ?_⟩
  rcases j.has with ⟨rfl, _, rfl⟩ | ⟨b, kb, fs, p1, rfl, p3, p4, p5, p6, p7, p8, p9, p10, p11, p12, p13⟩
  · exact ⟨[], .inl ⟨rfl, rfl, rfl⟩, fun c hc => by cases hc⟩
  · have hn : ∀ i, i < ys.length → fs i = [] := fun i hi => (p.no (p13 i hi).1).1
    have hf := flat_nil hn
    refine ⟨b :: (List.range ys.length).flatMap fs, .inr ⟨b, _, kb, fs, rfl, by omega, rfl, by rw [hf]; simp, ?_, ⟨p6, p7, by omega, by omega, by omega, fun i hi => (p13 i hi).1⟩, p9, p10, p11, p12⟩, fun c hc => ?_⟩
    · rw [hf]
      intro c hc kc hk
      simp at hc
      subst hc
      rw [p7] at hk
      cases hk
      exact p8
    · rw [hf] at hc
      simp at hc
      omega

/-- slices.Concat of a function's number. -/
def ConcatF {α : Type} (P : Program) (f : FuncId) (r : Rd α) (ty : TypeId) : Prop :=
  ∀ (H : Heap) (a : Value) (xss : List (List α)) (Q : Post), Has (Rd.slice (Rd.slice r)) H [a] xss → xss.flatten.length ≤ 16777216 → (∀ H' u, Joined r ty xss.flatten.length H u xss.flatten H' → Q u H') → Runs P f #[a] H Q

end Go.Ab
