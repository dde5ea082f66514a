/- The contract of the reference's l01Order. No condition. -/
import Derived.Test.YtgdiebnokgnniaaGreatDoorGAA
import Derived.Test.YtgdiebnokgnniaaGreatDoorGAB
import Derived.Test.YtgdiebnokgnniaaGreatDoorZabG5
import Derived.Test.YtgdiebnokgnniaaGreatDoorZabG3
namespace Go.Proofs.YtgdiebnokgnniaaGreatDoor
open Go.Ab

/- loop.example/g01343/spec.l01Order -/
def f65.l1 (Q : Post) (list_0 : Value) (n_1 : Value) (v1 : Value) (I1 : St [6] → Heap → Prop) (i_6 : Value) (H : Heap) : Prop :=
  W.len list_0 H fun v2 H =>
  W.bin .lss i_6 v2 H fun v3 H =>
  W.cond v3 H
  (fun H => W.indexAddr 1 list_0 i_6 H fun v4 H =>
   W.get v4 H fun v5 H =>
   W.bin .sub n_1 (.int .i64 1) H fun v6 H =>
   W.call Tryz.prog (.func (.func 70) #[] #[]) #[v5, (.int .i64 0), v6] H fun v7 H =>
   W.un .not v7 H fun v8 H =>
   W.guarded v8 false (fun H k => k v1 H) H fun v9 H =>
   W.guarded v8 false (fun H k => k list_0 H) H fun v10 H =>
   W.guarded v8 false (fun H k => k i_6 H) H fun v11 H =>
   W.guarded v8 false (fun H k => W.indexAddr 1 v10 v11 H k) H fun v12 H =>
   W.guarded v8 false (fun H k => W.get v12 H k) H fun v13 H =>
   W.guarded v8 false (fun H k => W.indexAddr 1 v9 v13 H k) H fun v14 H =>
   W.guarded v8 false (fun H k => W.get v14 H k) H fun v15 H =>
   W.pick v8 (.bool true) v15 H fun v16 H =>
   W.cond v16 H
   (fun H => Q (.bool false) H)
   (fun H => W.indexAddr 1 list_0 i_6 H fun v17 H =>
    W.get v17 H fun v18 H =>
    W.indexAddr 1 v1 v18 H fun v19 H =>
    W.put v19 (.bool true) H fun _ H =>
    W.bin .add i_6 (.int .i64 1) H fun v20 H =>
    I1 (v20, ()) H))
  (fun H => W.len list_0 H fun v21 H =>
   W.bin .eql v21 n_1 H fun v22 H =>
   Q v22 H)
def f65.w (Q : Post) (list_0 : Value) (n_1 : Value) (H : Heap) : Prop :=
  W.make [(.bool false)] 4 n_1 n_1 H fun v1 H =>
  W.loop (S := St [6]) (fun I1 s H => f65.l1 Q list_0 n_1 v1 I1 s.1 H) ((.int .i64 0), ()) H
theorem f65.enter {Q : Post} {list_0 : Value} {n_1 : Value} {H : Heap} (h : f65.w Q list_0 n_1 H) : Runs Tryz.prog 65 #[list_0, n_1] H Q :=
  fn_enter (ann := [(3, [6])]) (by kernel_rfl) Tryz.func65 rfl (by kernel_rfl) h (by kernel_rfl)


def seenCells (n : Nat) (l : List Int) : List Value := (List.range n).map fun (j : Nat) => .bool (l.contains (j : Int))

theorem seen_set {n : Nat} {l : List Int} {y : Nat} (_ : y < n) : (seenCells n l).set y (.bool true) = seenCells n (l ++ [(y : Int)]) := by
  apply List.ext_getElem
  · simp [seenCells]
  · intro j h1 h2
    have hj : j < n := by simpa [seenCells] using h2
    rw [List.getElem_set]
    simp only [seenCells, List.getElem_map, List.getElem_range]
    split
    · rename_i e; subst e; simp
    · rename_i e
      have : (j : Int) ≠ (y : Int) := by omega
      simp [this]

theorem fn65 {H : Heap} {Q : Post} {bs : List Nat} {v : Value} {xs : List Int} {n : Nat} (hn : n ≤ 1073741824) (hr : RS.rel H bs [v] xs) (hQ : ∀ H', H.Le H' → Q (.bool (isOrd n xs)) H') : Runs Tryz.prog 65 #[v, .int .i64 n] H Q := by
  have hx := Rd.slice_small hr
  refine f65.enter ?_
  unfold f65.w
  refine Wi.make (by omega) fun H1 l1 n1 k1 => ?_
  have k1' : H1.blk H.next = some ⟨seenCells n [], 4, 1, false⟩ := by
    rw [k1, reps_one]
    congr 2
    apply List.ext_getElem
    · simp [seenCells]
    · intro j h1 h2; simp [seenCells]
  refine W.loop_rule (fun s H' => ∃ zs ws, xs = zs ++ ws ∧ s = (.int .i64 zs.length, ()) ∧ H.Le H' ∧ H'.blk H.next = some ⟨seenCells n zs, 4, 1, false⟩ ∧ zs.Nodup ∧ ∀ x ∈ zs, 0 ≤ x ∧ x < n)
    (fun s _ => match s.1 with | .int _ i => xs.length - i.toNat | _ => 0) ⟨[], xs, rfl, rfl, l1, k1', List.nodup_nil, fun x hx => by cases hx⟩ ?_
  rintro s H2 ⟨zs, ws, hzs, rfl, l2, k2, nd, rg⟩
  unfold f65.l1
  refine Wi.lenOf (Rd.le _ hr l2) (Wi.lss (Wi.cond (fun hlt => ?_) fun hge => ?_))
  · have hz : zs.length < xs.length := by simp only [decide_eq_true_eq] at hlt; omega
    cases ws with
    | nil => rw [hzs] at hz; simp at hz
    | cons y ws =>
      have hget : xs[zs.length] = y := by simp [hzs]
      have bad : ¬ (y ∉ zs ∧ 0 ≤ y ∧ y < n) → Q (.bool false) H2 := fun hb => by
        have := hQ H2 l2
        have e : isOrd n xs = false := by
          cases h : isOrd n xs with
          | false => rfl
          | true =>
            obtain ⟨_, h2, h3⟩ := isOrd_iff.1 h
            rw [hzs] at h2 h3
            exact absurd ⟨fun hm => (List.nodup_append.1 h2).2.2 y hm y (by simp) rfl, h3 y (by simp)⟩ hb
        rw [e] at this
        exact this
      refine Wi.atInt (Rd.le _ hr l2) hz ?_
      rw [hget]
      refine Wi.sub (by unfold I64; omega) (Wi.call (fn70 (Wi.not ?_)))
      cases hR : inR 0 ((n : Int) - 1) y with
      | false =>
        refine Wi.nT (Wi.nT (Wi.nT (Wi.nT (Wi.nT (Wi.nT (Wi.nT (Wi.pickT (Wi.tru (bad fun h => ?_)))))))))
        have : inR 0 ((n : Int) - 1) y = true := by simp only [inR, Bool.and_eq_true, decide_eq_true_eq]; omega
        rw [this] at hR; cases hR
      | true =>
        simp only [inR, Bool.and_eq_true, decide_eq_true_eq] at hR
        obtain ⟨m, rfl⟩ : ∃ m : Nat, y = m := ⟨y.toNat, by omega⟩
        have hm : m < n := by omega
        have hidx : (seenCells n zs)[0 + m * 1]? = some (.bool (zs.contains (m : Int))) := by
          simp [seenCells, hm]
        obtain ⟨b, o, e, kb, u, bs', q1, hb, m1, r1⟩ := Rd.slice_get (r := Rd.int) rfl (Rd.le _ hr l2) hz
        obtain ⟨_, hu, _⟩ := r1
        simp only [List.cons.injEq, and_true] at hu
        rw [hget] at hu
        subst hu
        refine Wi.nF (Wi.nF (Wi.nF (Wi.nF (Wi.indexE q1 hz (Wi.nF (Wi.get hb m1 (Wi.nF (Wi.index hm (Wi.nF (Wi.get k2 hidx (Wi.pickF (Wi.cond (fun ht => ?_) fun hf => ?_))))))))))))
        · exact bad fun h => h.1 (by simpa using ht)
        · refine Wi.indexE q1 hz (Wi.get hb m1 (Wi.index hm (Wi.put k2 rfl rfl (by simp [seenCells]; omega) fun H3 w3 => Wi.add (by unfold I64; omega) ⟨⟨zs ++ [(m : Int)], ws, by rw [hzs]; simp, ?_, w3.le l2 (Nat.le_refl _), ?_, ?_, ?_⟩, by simp only; simp; omega⟩)))
          · simp
            rfl
          · rw [w3.here]
            congr 2
            rw [Nat.zero_add, Nat.mul_one]
            exact seen_set hm
          · have hnm : (m : Int) ∉ zs := by simpa using hf
            exact List.nodup_append.2 ⟨nd, by simp, fun a ha c hc e => by simp at hc; subst hc; exact hnm (e ▸ ha)⟩
          · intro x hx
            rcases List.mem_append.1 hx with hx | hx
            · exact rg x hx
            · simp at hx; omega
  · have hz : zs.length = xs.length := by
      have : zs.length ≤ xs.length := by rw [hzs]; simp
      simp only [decide_eq_false_iff_not] at hge
      omega
    have : ws = [] := by
      rw [hzs] at hz
      simp at hz
      exact hz
    subst this
    rw [List.append_nil] at hzs
    subst hzs
    refine Wi.lenOf (Rd.le _ hr l2) (Wi.eql ?_)
    rw [int_beq]
    have e : isOrd n xs = decide (xs.length = n) := by
      by_cases h : xs.length = n
      · rw [isOrd_iff.2 ⟨h, nd, rg⟩]; simp [h]
      · have : isOrd n xs = false := by simp [isOrd, h]
        rw [this]; simp [h]
    rw [← e]
    exact hQ H2 l2

end Go.Proofs.YtgdiebnokgnniaaGreatDoor
