/- All elements but the first of a list that has grown are cleared, the first is kept. No program here. -/
import Derived.Test.YtdmgomeogedjgaaGreatZabG5
import Derived.Test.YtdmgomeogedjgaaGreatZabG1
import Derived.Test.YtdmgomeogedjgaaGreatZabG8
namespace Go.Ab

theorem slice_hi1 {b n e : Nat} {kb : Blk} {H : Heap} {K : Post} (hn : 2 ≤ n) (he : e / 2 = n) (hb : H.blk b = some kb) (hs : kb.esz = 1) (k : K (.slice (some (adr b 1)) (n - 1) (e - 2)) H) : W.slice 1 (.slice (some (adr b 0)) n e) (some (.int .i64 1)) none H K := by
  unfold W.slice
  refine ⟨by omega, by omega, by omega, ?_⟩
  show (if (1 : Int).toNat = e / 2 then _ else if (1 : Int).toNat = 0 then _ else _)
  rw [if_neg (by omega), if_neg (by decide)]
  have hb' : H.blk (adr b 0).block = some kb := hb
  rw [hb']
  refine ⟨hs, ?_⟩
  have e1 : ((n : Int).toNat - (1 : Int).toNat) = n - 1 := by omega
  have e2 : e - 2 * (1 : Int).toNat = e - 2 := rfl
  rw [e1, e2]
  exact k

theorem slice_lo1 {b n e : Nat} {H : Heap} {K : Post} (hn : 2 ≤ n) (he : e / 2 = n) (k : K (.slice (some (adr b 0)) 1 e) H) : W.slice 1 (.slice (some (adr b 0)) n e) none (some (.int .i64 1)) H K := by
  unfold W.slice
  refine ⟨by omega, by omega, by omega, ?_⟩
  show (if (0 : Int).toNat = e / 2 then _ else if (0 : Int).toNat = 0 then _ else _)
  rw [if_neg (by simp; omega), if_pos (by decide)]
  exact k

theorem clear_at {b n e : Nat} {kb : Blk} {H : Heap} {K : Post} (hn : 1 ≤ n) (hb : H.blk b = some kb) (hro : kb.ro = false) (hl : 1 + n ≤ kb.cells.length)
    (k : K (.tuple #[]) (H.setBlk b (some { kb with cells := kb.cells.take 1 ++ reps n [.slice none 0 0] ++ kb.cells.drop (1 + (reps n [.slice none 0 0]).length) }))) : W.clear [.slice none 0 0] (.slice (some (adr b 1)) n e) H K := by
  unfold W.clear
  show (if n = 0 then _ else _)
  rw [if_neg (by omega)]
  have hr : (reps n [(.slice none 0 0 : Value)]).length = n := by rw [reps_length]; simp
  have hall : (reps n [(.slice none 0 0 : Value)]).all isCell = true := by
    rw [List.all_eq_true]
    intro v hv
    simp only [reps, List.mem_flatten, List.mem_replicate] at hv
    obtain ⟨l, ⟨_, rfl⟩, hv⟩ := hv
    simp at hv
    subst hv
    rfl
  have e : H.setN (adr b 1) (reps n [.slice none 0 0]) = some (H.setBlk b (some { kb with cells := kb.cells.take 1 ++ reps n [.slice none 0 0] ++ kb.cells.drop (1 + (reps n [.slice none 0 0]).length) })) := by
    unfold Heap.setN
    have hb' : H.blk (adr b 1).block = some kb := hb
    rw [hb']
    show (if _ then _ else _) = _
    rw [if_pos]
    rw [hall, hro, decide_eq_true (by rw [hr]; exact hl)]
    rfl
  show (match H.setN (adr b 1) (reps n [.slice none 0 0]) with | some H' => K (.tuple #[]) H' | none => False)
  rw [e]
  exact k

theorem Wl.clearTail {H0 H : Heap} {L : List (Atom H0.next)} {α : Type} {r : Rd α} (hr : r.n = 1) {ty : TypeId} {v : Value} {xs : List α} {j : Nat} {K : Post} (h : Loc H0 L H) (hj : L[j]? = some (.grow r ty v xs)) (h2 : 2 ≤ xs.length)
    (k : ∀ H' w, Loc H0 (L.set j (.data (Rd.slice r) [w] (xs.take 1))) H' → K w H') :
    W.slice 1 v (some (.int .i64 1)) none H fun w H => W.clear [.slice none 0 0] w H fun _ H => W.slice 1 v none (some (.int .i64 1)) H K := by
  obtain ⟨bs, p, _, up⟩ := h.upd hj
  rcases p with ⟨_, rfl, _⟩ | ⟨b, e, kb, fs, rfl, he, rfl, h4, h5, sl, h6, h7, h8, h9⟩
  · simp at h2
  · rw [hr, Nat.mul_one] at h8
    rw [hr] at h7
    have hro : kb.ro = false := h5 b (by simp) kb sl.blk
    refine slice_hi1 h2 he sl.blk h7 (clear_at (by omega) sl.blk hro (by omega) (slice_lo1 h2 he (k _ _ ?_)))
    have hl1 : (xs.take 1).length = 1 := by simp; omega
    have hb0 : b ∉ (List.range xs.length).flatMap fs := (List.nodup_cons.1 h4).1
    have hsub : ∀ c, c ∈ fs 0 → c ∈ (List.range xs.length).flatMap fs := fun c hc => List.mem_flatMap.2 ⟨0, by simp; omega, hc⟩
    have hf0 : (List.range (xs.take 1).length).flatMap fs = fs 0 := by rw [hl1]; simp
    refine up _ _ (b :: fs 0) (Nat.le_refl _) (fun c _ hc => ?_) ⟨.inr ⟨b, 0, e, _, fs, by rw [hf0], by rw [hl1], ⟨sl.lt, if_pos rfl, by rw [hl1]; omega, by rw [hl1]; decide, ?_, fun i hi => ?_⟩⟩, ?_, fun c hc kc hk => ?_⟩ fun c hc => ?_
    · simp only [Heap.setBlk]
      rw [if_neg fun e => hc (by simp [e])]
    · rw [hl1, hr]
      simp
      omega
    · have : i = 0 := by rw [hl1] at hi; omega
      subst this
      have h0 := sl.each 0 (by omega)
      have ec : cellsAt r.n (kb.cells.take 1 ++ reps (xs.length - 1) [(.slice none 0 0 : Value)] ++ kb.cells.drop (1 + (reps (xs.length - 1) [(.slice none 0 0 : Value)]).length)) 0 0 = cellsAt r.n kb.cells 0 0 := by
        rw [hr]
        unfold cellsAt
        have : 0 < kb.cells.length := by omega
        cases hk : kb.cells with
        | nil => rw [hk] at this; simp at this
        | cons y ys => simp
      rw [ec, List.getElem_take]
      refine r.frame h0 (Nat.le_refl _) fun c hc => ?_
      simp only [Heap.setBlk]
      exact if_neg fun (e1 : c = b) => hb0 (by rw [← e1]; exact hsub c hc)
    · rw [List.nodup_cons]
      refine ⟨fun g => hb0 (hsub b g), ?_⟩
      have := (List.nodup_cons.1 h4).2
      have hs : (fs 0).Sublist ((List.range xs.length).flatMap fs) := by
        obtain ⟨m, hm⟩ : ∃ m, xs.length = m + 1 := ⟨xs.length - 1, by omega⟩
        rw [hm, List.range_succ_eq_map, List.flatMap_cons]
        exact List.sublist_append_left _ _
      exact this.sublist hs
    · simp only [Heap.setBlk] at hk
      by_cases e1 : c = b
      · rw [if_pos e1] at hk
        cases hk
        exact hro
      · rw [if_neg e1] at hk
        rcases List.mem_cons.1 hc with g | g
        · exact absurd g e1
        · exact h5 c (List.mem_cons.2 (.inr (hsub c g))) kc hk
    · rcases List.mem_cons.1 hc with g | g
      · exact .inl (by simp [g])
      · exact .inl (List.mem_cons.2 (.inr (hsub c g)))

end Go.Ab
