/- Contracts of BasicSets and of the laws' helpers; what a run's end means. No condition. -/
import Derived.Test.YthfcodelpebjcaaGreatRU1
import Derived.Test.YthfcodelpebjcaaGreatGDR
namespace Go.Proofs.YthfcodelpebjcaaGreat
open Go.Ab

/- loop.example/g01343/laws.sum -/
def f19.l1 (Q : Post) (list_0 : Value) (I1 : St [3, 4] → Heap → Prop) (n_3 : Value) (i_4 : Value) (H : Heap) : Prop :=
  W.len list_0 H fun v1 H =>
  W.bin .lss i_4 v1 H fun v2 H =>
  W.cond v2 H
  (fun H => W.indexAddr 1 list_0 i_4 H fun v3 H =>
   W.get v3 H fun v4 H =>
   W.bin .add n_3 v4 H fun v5 H =>
   W.bin .add i_4 (.int .i64 1) H fun v6 H =>
   I1 (v5, v6, ()) H)
  (fun H => Q n_3 H)
def f19.w (Q : Post) (list_0 : Value) (H : Heap) : Prop :=
  W.loop (S := St [3, 4]) (fun I1 s H => f19.l1 Q list_0 I1 s.1 s.2.1 H) ((.int .i64 0), (.int .i64 0), ()) H
theorem f19.enter {Q : Post} {list_0 : Value} {H : Heap} (h : f19.w Q list_0 H) : Runs Tryz.prog 19 #[list_0] H Q :=
  fn_enter (ann := [(3, [3, 4])]) (by kernel_rfl) Tryz.func19 rfl (by kernel_rfl) h (by kernel_rfl)

/- loop.example/g01343/laws.hasInt -/
def f22.l1 (Q : Post) (list_0 : Value) (x_1 : Value) (I1 : St [5] → Heap → Prop) (i_5 : Value) (H : Heap) : Prop :=
  W.len list_0 H fun v1 H =>
  W.bin .lss i_5 v1 H fun v2 H =>
  W.cond v2 H
  (fun H => W.indexAddr 1 list_0 i_5 H fun v3 H =>
   W.get v3 H fun v4 H =>
   W.bin .eql v4 x_1 H fun v5 H =>
   W.cond v5 H
   (fun H => Q (.bool true) H)
   (fun H => W.bin .add i_5 (.int .i64 1) H fun v6 H =>
    I1 (v6, ()) H))
  (fun H => Q (.bool false) H)
def f22.w (Q : Post) (list_0 : Value) (x_1 : Value) (H : Heap) : Prop :=
  W.loop (S := St [5]) (fun I1 s H => f22.l1 Q list_0 x_1 I1 s.1 H) ((.int .i64 0), ()) H
theorem f22.enter {Q : Post} {list_0 : Value} {x_1 : Value} {H : Heap} (h : f22.w Q list_0 x_1 H) : Runs Tryz.prog 22 #[list_0, x_1] H Q :=
  fn_enter (ann := [(2, [5])]) (by kernel_rfl) Tryz.func22 rfl (by kernel_rfl) h (by kernel_rfl)

/- loop.example/g01343/laws.likeInts -/
def f12.l1 (Q : Post) (a_0 : Value) (b_1 : Value) (I1 : St [5] → Heap → Prop) (i_5 : Value) (H : Heap) : Prop :=
  W.len a_0 H fun v4 H =>
  W.bin .lss i_5 v4 H fun v5 H =>
  W.cond v5 H
  (fun H => W.indexAddr 1 a_0 i_5 H fun v6 H =>
   W.get v6 H fun v7 H =>
   W.indexAddr 1 b_1 i_5 H fun v8 H =>
   W.get v8 H fun v9 H =>
   W.bin .neq v7 v9 H fun v10 H =>
   W.cond v10 H
   (fun H => Q (.bool false) H)
   (fun H => W.bin .add i_5 (.int .i64 1) H fun v11 H =>
    I1 (v11, ()) H))
  (fun H => Q (.bool true) H)
def f12.w (Q : Post) (a_0 : Value) (b_1 : Value) (H : Heap) : Prop :=
  W.len a_0 H fun v1 H =>
  W.len b_1 H fun v2 H =>
  W.bin .neq v1 v2 H fun v3 H =>
  W.cond v3 H
  (fun H => Q (.bool false) H)
  (fun H => W.loop (S := St [5]) (fun I1 s H => f12.l1 Q a_0 b_1 I1 s.1 H) ((.int .i64 0), ()) H)
theorem f12.enter {Q : Post} {a_0 : Value} {b_1 : Value} {H : Heap} (h : f12.w Q a_0 b_1 H) : Runs Tryz.prog 12 #[a_0, b_1] H Q :=
  fn_enter (ann := [(4, [5])]) (by kernel_rfl) Tryz.func12 rfl (by kernel_rfl) h (by kernel_rfl)

/- loop.example/g01343/laws.big -/
def f5.w (Q : Post) (code_0 : Value) (H : Heap) : Prop :=
  W.len code_0 H fun v1 H =>
  W.bin .gtr v1 (.int .i64 4096) H fun v2 H =>
  Q v2 H
theorem f5.enter {Q : Post} {code_0 : Value} {H : Heap} (h : f5.w Q code_0 H) : Runs Tryz.prog 5 #[code_0] H Q :=
  fn_enter (ann := []) (by kernel_rfl) Tryz.func5 rfl (by kernel_rfl) h (by kernel_rfl)


def basB (n : Nat) (p : Prob) (s : Nat) : Bool := decide (det n (mAt (colL n p.1 s)) ≠ 0)
def basTo (n : Nat) (p : Prob) (x : Nat) : List Int := ((List.range x).filter (basB n p)).map fun (s : Nat) => (s : Int)
theorem basTo_in {n : Nat} {p : Prob} {x : Nat} (h : basB n p x = true) : basTo n p (x + 1) = basTo n p x ++ [(x : Int)] := by
  unfold basTo
  rw [List.range_succ, List.filter_append, List.map_append]
  simp [h]
theorem basTo_out {n : Nat} {p : Prob} {x : Nat} (h : basB n p x = false) : basTo n p (x + 1) = basTo n p x := by
  unfold basTo
  rw [List.range_succ, List.filter_append, List.map_append]
  simp [h]
theorem basTo_len (n : Nat) (p : Prob) (x : Nat) : (basTo n p x).length ≤ x := by
  have := List.length_filter_le (basB n p) (List.range x)
  simpa [basTo] using this
theorem basTo_mem {n : Nat} {p : Prob} {x s : Nat} : (s : Int) ∈ basTo n p x ↔ s < x ∧ det n (mAt (colL n p.1 s)) ≠ 0 := by
  unfold basTo
  rw [List.mem_map]
  constructor
  · rintro ⟨a, ha, e⟩
    have : a = s := by omega
    subst this
    have := List.mem_filter.1 ha
    exact ⟨by simpa using this.1, of_decide_eq_true this.2⟩
  · rintro ⟨h1, h2⟩
    exact ⟨s, List.mem_filter.2 ⟨by simpa using h1, decide_eq_true h2⟩, rfl⟩
theorem covL_mem {n : Nat} {p : Prob} {s : Nat} : (s : Int) ∈ covL n p ↔ s < 2 ^ n ∧ covB n p s = true := by
  unfold covL covTo
  rw [List.mem_map]
  constructor
  · rintro ⟨a, ha, e⟩
    have : a = s := by omega
    subst this
    have := List.mem_filter.1 ha
    exact ⟨by simpa using this.1, this.2⟩
  · rintro ⟨h1, h2⟩
    exact ⟨s, List.mem_filter.2 ⟨by simpa using h1, h2⟩, rfl⟩

def baRes (p : Prob) : List Int × Int := if isProb p = true then (basTo p.2.length p (2 ^ p.2.length), 0) else ([], 1)


theorem fn12 {H0 : Heap} {Q : Post} {va vb : Value} {a b : List Int} (ha : Has RS H0 [va] a) (hb : Has RS H0 [vb] b) (hQ : Q (.bool (decide (a = b))) H0) : Runs Tryz.prog 12 #[va, vb] H0 Q := by
  have hsa := ha.small
  refine f12.enter (Wl.lenH ha (Wl.lenH hb (Wi.neqC (fun hne => Wi.tru ?_) fun he => Wi.fls ?_)))
  · rw [decide_eq_false (fun e => hne (by rw [e]))] at hQ
    exact hQ
  have hl : a.length = b.length := by omega
  refine W.for_rule a.length (fun i st H => H = H0 ∧ st = (.int .i64 (i : Nat), ()) ∧ ∀ j (hj : j < a.length), j < i → a[j] = b[j]) ⟨rfl, rfl, fun j _ hj => by omega⟩ ?_
  rintro i st H J hi ⟨rfl, rfl, hok⟩ hJ
  refine Wl.lenH ha (Wi.lssC (fun hlt => Wi.tru ?_) fun hge => Wi.fls ?_)
  · have hia : i < a.length := by omega
    refine Wl.atIntH ha hia fun _ => Wl.atIntH hb (i := i) (by omega) fun _ => Wi.neqC (fun hne => Wi.tru ?_) fun he => Wi.fls ?_
    · rw [decide_eq_false (fun e => hne (by subst e; rfl))] at hQ
      exact hQ
    · refine Wi.add (by unfold I64; omega) (hJ _ _ hia ⟨rfl, rfl, fun j hj hji => ?_⟩)
      by_cases e : j = i
      · subst e; exact he
      · exact hok j hj (by omega)
  · have : a = b := List.ext_getElem hl fun j h1 _ => hok j h1 (by omega)
    rw [decide_eq_true this] at hQ
    exact hQ

theorem fn22 {H0 : Heap} {Q : Post} {v : Value} {l : List Int} {x : Int} (hr : Has RS H0 [v] l) (hQ : Q (.bool (decide (x ∈ l))) H0) : Runs Tryz.prog 22 #[v, .int .i64 x] H0 Q := by
  have hs := hr.small
  refine f22.enter ?_
  refine W.for_rule l.length (fun i st H => H = H0 ∧ st = (.int .i64 (i : Nat), ()) ∧ ∀ j (hj : j < l.length), j < i → l[j] ≠ x) ⟨rfl, rfl, fun j _ hj => by omega⟩ ?_
  rintro i st H J hi ⟨rfl, rfl, hok⟩ hJ
  refine Wl.lenH hr (Wi.lssC (fun hlt => Wi.tru ?_) fun hge => Wi.fls ?_)
  · have hil : i < l.length := by omega
    refine Wl.atIntH hr hil fun _ => Wi.eqlC (fun he => Wi.tru ?_) fun hne => Wi.fls ?_
    · rw [decide_eq_true (show x ∈ l by rw [← he]; exact List.getElem_mem hil)] at hQ
      exact hQ
    · refine Wi.add (by unfold I64; omega) (hJ _ _ hil ⟨rfl, rfl, fun j hj hji => ?_⟩)
      by_cases e : j = i
      · subst e; exact hne
      · exact hok j hj (by omega)
  · rw [decide_eq_false (fun hm => by
      obtain ⟨j, hj, e⟩ := List.mem_iff_getElem.1 hm
      exact hok j hj (by omega) e)] at hQ
    exact hQ

theorem fn19 {H0 : Heap} {Q : Post} {v : Value} {l : List Int} (hr : Has RS H0 [v] l) (hb : ∀ i, i ≤ l.length → I64 (l.take i).sum) (hQ : Q (.int .i64 l.sum) H0) : Runs Tryz.prog 19 #[v] H0 Q := by
  have hs := hr.small
  refine f19.enter ?_
  refine W.for_rule l.length (fun i st H => H = H0 ∧ st = (.int .i64 (l.take i).sum, .int .i64 (i : Nat), ())) ⟨rfl, rfl⟩ ?_
  rintro i st H J hi ⟨rfl, rfl⟩ hJ
  refine Wl.lenH hr (Wi.lssC (fun hlt => Wi.tru ?_) fun hge => Wi.fls ?_)
  · have hil : i < l.length := by omega
    have e : (l.take (i + 1)).sum = (l.take i).sum + l[i] := by
      rw [List.take_succ_eq_append_getElem hil, List.sum_append]
      simp
    refine Wl.atIntH hr hil fun _ => Wi.add (by rw [← e]; exact hb _ hil) (Wi.add (by unfold I64; omega) (hJ _ _ hil ⟨rfl, by rw [e]; rfl⟩))
  · have : i = l.length := by omega
    subst this
    rw [List.take_length]
    exact hQ

/-! ### What a run's end means -/

theorem run_nodup {n : Nat} {p : Prob} {rule : Int} {s0 : Nat} : ∀ k, (∀ j, j < k → cls n p rule s0 j = none) → ((List.range k).map (ss n p rule s0)).Nodup
  | 0, _ => by simp
  | k + 1, h => by
    rw [List.range_succ, List.map_append, List.nodup_append]
    refine ⟨run_nodup k fun j hj => h j (by omega), by simp, fun a ha b hb e => ?_⟩
    simp only [List.map_cons, List.map_nil, List.mem_singleton] at hb
    subst hb
    subst e
    exact cls_new (h k (by omega)) ha

theorem run_met {n : Nat} {p : Prob} {rule : Int} {s0 k : Nat} (h : RunEnd n p rule s0 k 2) : (setsL ((List.range (k + 1)).map (ss n p rule s0))).count (ss n p rule s0 k : Int) = 2 ∧ det n (mAt (colL n p.1 (ss n p rule s0 k))) ≠ 0 := by
  obtain ⟨h1, h2⟩ := h
  have hnd := run_nodup k h1
  unfold cls at h2
  by_cases hd : det n (mAt (colL n p.1 (ss n p rule s0 k))) = 0
  · rw [if_pos hd] at h2; cases h2
  · rw [if_neg hd] at h2
    by_cases hm : ss n p rule s0 k ∈ (List.range k).map (ss n p rule s0)
    · refine ⟨?_, hd⟩
      rw [← setsL_push, List.count_append, List.count_singleton_self]
      have inj : ∀ l : List Nat, l.Nodup → (ss n p rule s0 k) ∈ l → (setsL l).count (ss n p rule s0 k : Int) = 1 := by
        intro l
        induction l with
        | nil => intro _ h; cases h
        | cons x l ih =>
          intro hn hx
          rw [List.nodup_cons] at hn
          have none : ∀ l : List Nat, ss n p rule s0 k ∉ l → (setsL l).count (ss n p rule s0 k : Int) = 0 := fun l hl => by
            rw [List.count_eq_zero]
            intro g
            obtain ⟨y, hy, e⟩ := List.mem_map.1 g
            have : y = ss n p rule s0 k := by omega
            exact hl (this ▸ hy)
          show ((x : Int) :: setsL l).count _ = 1
          rw [List.count_cons]
          rcases List.mem_cons.1 hx with e | e
          · rw [← e] at hn ⊢
            rw [none l hn.1]
            simp
          · rw [ih hn.2 e]
            have : ¬ x = ss n p rule s0 k := fun g => hn.1 (g ▸ e)
            simp
            omega
      rw [inj _ hnd hm]
    · rw [if_neg hm] at h2
      split at h2 <;> cases h2

theorem run_solved {n : Nat} {p : Prob} {rule : Int} {s0 k : Nat} (h : RunEnd n p rule s0 k 0) : covB n p (ss n p rule s0 k) = true := by
  obtain ⟨h1, h2⟩ := h
  unfold cls at h2
  by_cases hd : det n (mAt (colL n p.1 (ss n p rule s0 k))) = 0
  · rw [if_pos hd] at h2; cases h2
  · rw [if_neg hd] at h2
    split at h2
    · cases h2
    · split at h2
      · rename_i h0
        rw [covB_of hd, List.all_eq_true]
        intro x hx
        exact decide_eq_true (exA_none (exV_zero.1 h0) x hx)
      · cases h2

theorem run_stuck {n : Nat} {p : Prob} {rule : Int} {s0 k : Nat} (h : RunEnd n p rule s0 k 1) : det n (mAt (colL n p.1 (ss n p rule s0 k))) = 0 := by
  obtain ⟨h1, h2⟩ := h
  unfold cls at h2
  by_cases hd : det n (mAt (colL n p.1 (ss n p rule s0 k))) = 0
  · exact hd
  · rw [if_neg hd] at h2
    split at h2
    · cases h2
    · split at h2 <;> cases h2

end Go.Proofs.YthfcodelpebjcaaGreat
