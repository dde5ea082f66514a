/- The contract of turned. No condition. -/
import Derived.Test.YtbcfknboheghkaaGreatGAA
import Derived.Test.YtbcfknboheghkaaGreatZabG5
namespace Go.Proofs.YtbcfknboheghkaaGreat
open Go.Ab

/- loop.example/g01343/impl.turned -/
def f93.l2 (Q : Post) (v9 : Value) (v8 : Value) (v4 : Value) (x_15 : Value) (I1 : St [15] → Heap → Prop) (I2 : St [21] → Heap → Prop) (x_21 : Value) (H : Heap) : Prop :=
  W.bin .lss x_21 v9 H fun v10 H =>
  W.cond v10 H
  (fun H => W.indexAddr 1 v8 x_21 H fun v11 H =>
   W.get v11 H fun v12 H =>
   W.indexAddr 1 v4 x_21 H fun v13 H =>
   W.get v13 H fun v14 H =>
   W.lit 1 [(.int .i64 0)] 2 [(0, 1, v12)] H fun v15 H =>
   W.append 1 2 v14 v15 H fun v16 H =>
   W.indexAddr 1 v4 x_21 H fun v17 H =>
   W.put v17 v16 H fun _ H =>
   W.bin .add x_21 (.int .i64 1) H fun v18 H =>
   I2 (v18, ()) H)
  (fun H => W.bin .add x_15 (.int .i64 1) H fun v19 H =>
   I1 (v19, ()) H)
def f93.l1 (Q : Post) (v5 : Value) (m_0 : Value) (v4 : Value) (I1 : St [15] → Heap → Prop) (x_15 : Value) (H : Heap) : Prop :=
  W.bin .lss x_15 v5 H fun v6 H =>
  W.cond v6 H
  (fun H => W.indexAddr 1 m_0 x_15 H fun v7 H =>
   W.get v7 H fun v8 H =>
   W.len v8 H fun v9 H =>
   W.loop (S := St [21]) (fun I2 s H => f93.l2 Q v9 v8 v4 x_15 I1 I2 s.1 H) ((.int .i64 0), ()) H)
  (fun H => Q v4 H)
def f93.w (Q : Post) (m_0 : Value) (H : Heap) : Prop :=
  W.indexAddr 1 m_0 (.int .i64 0) H fun v1 H =>
  W.get v1 H fun v2 H =>
  W.len v2 H fun v3 H =>
  W.make [(.slice none 0 0)] 35 v3 v3 H fun v4 H =>
  W.len m_0 H fun v5 H =>
  W.loop (S := St [15]) (fun I1 s H => f93.l1 Q v5 m_0 v4 I1 s.1 H) ((.int .i64 0), ()) H
theorem f93.enter {Q : Post} {m_0 : Value} {H : Heap} (h : f93.w Q m_0 H) : Runs Tryz.prog 93 #[m_0] H Q :=
  fn_enter (ann := [(3, [15]), (6, [21])]) (by kernel_rfl) Tryz.func93 rfl (by kernel_rfl) h (by kernel_rfl)


def turnM (m : List (List Int)) (n : Nat) : List (List Int) := (List.range n).map fun j => m.map fun r => r.getD j 0

theorem fn93 {H0 : Heap} {Q : Post} {v : Value} {m : List (List Int)} {n : Nat} (hr : Has RSS H0 [v] m) (h0 : 0 < m.length) (hl : m.length ≤ 1048576) (hn : n ≤ 1048576) (hm : ∀ r ∈ m, r.length = n) (hQ : ∀ H' u, Fresh RSS H0 [u] (turnM m n) H' → Q u H') :
    Runs Tryz.prog 93 #[v] H0 Q := by
  have h := (Loc.start H0).lent hr
  have hi64 : ∀ r ∈ m, ∀ x ∈ r, I64 x := fun r hrm x hx => by
    obtain ⟨i, hi, rfl⟩ := List.mem_iff_getElem.1 hrm
    obtain ⟨_, hr⟩ := hr
    obtain ⟨b, o, e, kb, fs, q1, _, s⟩ := Rd.slice_at hr hi
    obtain ⟨u, _, ru⟩ := s.one rfl hi
    exact Has.i64 ⟨_, ru⟩ x hx
  refine f93.enter (Wl.at1 (i := 0) rfl h h0 fun w hw => Wl.lenH hw ?_)
  rw [hm _ (List.getElem_mem h0)]
  have hgs : ∀ H, (Rd.gslice Rd.int 2).rel H [] [.slice none 0 0] [] := fun H => ⟨_, rfl, .inl ⟨rfl, rfl, rfl⟩⟩
  refine Wl.make (r := Rd.gslice Rd.int 2) hgs h (by omega) (by decide) fun H u h => Wl.len h ?_
  have h := h.asData (i := 0) rfl
  obtain ⟨us, _, h⟩ := h.heads (i := 0) rfl rfl
  -- column c behind i rows and j numbers of the next one
  have hst : ∀ (i j : Nat), ((List.range n).map fun c => (m.take (if c < j then i + 1 else i)).map fun r => r.getD c 0).length = n := fun i j => by simp
  refine W.for_rule m.length (fun i s H => ∃ us, s = (.int .i64 (i : Nat), ()) ∧ Ab.Loc H0 [.rows (Rd.gslice Rd.int 2) u us ((List.range n).map fun c => (m.take i).map fun r => r.getD c 0), .lent RSS [v] m] H) ⟨us, rfl, ?_⟩ ?_
  · have e : ((List.range n).map fun c => (m.take 0).map fun r => r.getD c 0) = List.replicate n [] := by
      apply List.ext_getElem <;> simp
    rw [e]
    exact h
  rintro i s H J hi ⟨us, rfl, h⟩ hJ
  refine Wi.lssC (fun hlt => Wi.tru ?_) fun hge => Wi.fls ?_
  · have hix : i < m.length := by omega
    have hrl := hm _ (List.getElem_mem hix)
    refine Wl.atL rfl h hix fun w h => Wl.len h ?_
    refine W.for_rule n (fun j s H => ∃ us, s = (.int .i64 (j : Nat), ()) ∧ Ab.Loc H0 [.lent RS [w] m[i], .rows (Rd.gslice Rd.int 2) u us ((List.range n).map fun c => (m.take (if c < j then i + 1 else i)).map fun r => r.getD c 0), .lent RSS [v] m] H) ⟨us, rfl, by simpa using h⟩ ?_
    rintro j s H J2 hj ⟨us, rfl, h⟩ hJ2
    refine Wi.lssC (fun hlt2 => Wi.tru ?_) fun hge2 => Wi.fls ?_
    · have hjn : j < n := by omega
      have hjr : j < m[i].length := by omega
      refine Wl.atInt h hjr fun hx64 => ?_
      have hcol : ((List.range n).map fun c => (m.take (if c < j then i + 1 else i)).map fun r => r.getD c 0)[j]'(by rw [hst]; exact hjn) = (m.take i).map fun r => r.getD j 0 := by simp
      refine Wl.rowPush (r := Rd.int) (y := m[i][j]) rfl rfl rfl (fun _ => ⟨rfl, rfl, hx64⟩) h (by rw [hst]; exact hjn) (by rw [hcol]; simp; omega) fun H us' h => Wi.add (by unfold I64; omega) (hJ2 _ _ hjn ⟨us', rfl, ?_⟩)
      rw [hcol] at h
      have e : (((List.range n).map fun c => (m.take (if c < j then i + 1 else i)).map fun r => r.getD c 0).set j (((m.take i).map fun r => r.getD j 0) ++ [m[i][j]])) = (List.range n).map fun c => (m.take (if c < j + 1 then i + 1 else i)).map fun r => r.getD c 0 := by
        apply List.ext_getElem
        · simp
        · intro c h1 h2
          have hc : c < n := by simpa using h2
          rw [List.getElem_set]
          simp only [List.getElem_map, List.getElem_range]
          by_cases hjc : j = c
          · subst hjc
            rw [if_pos rfl, if_pos (by omega), List.take_succ_eq_append_getElem hix, List.map_append]
            simp [List.getD_eq_getElem?_getD, List.getElem?_eq_getElem hjr]
          · rw [if_neg hjc]
            by_cases hcj : c < j
            · rw [if_pos hcj, if_pos (by omega)]
            · rw [if_neg hcj, if_neg (by omega)]
      rw [e] at h
      exact h
    · have : j = n := by omega
      subst this
      refine Wi.add (by unfold I64; omega) (hJ _ _ hix ⟨us, rfl, ?_⟩)
      have e : ((List.range j).map fun c => (m.take (if c < j then i + 1 else i)).map fun r => r.getD c 0) = (List.range j).map fun c => (m.take (i + 1)).map fun r => r.getD c 0 := by
        apply List.map_congr_left
        intro c hc
        rw [if_pos (by simpa using hc)]
      rw [e] at h
      exact h.tl
  · have : i = m.length := by omega
    subst this
    rw [List.take_length] at h
    exact hQ _ _ ((h.ungrow (i := 0) rfl).ret (i := 0) rfl)

end Go.Proofs.YtbcfknboheghkaaGreat
