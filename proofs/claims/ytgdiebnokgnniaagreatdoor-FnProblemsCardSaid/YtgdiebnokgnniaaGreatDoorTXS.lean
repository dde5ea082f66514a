/- Texts of problems in the reference: numerals, lists, problems, and how they are read. No condition. -/
import Derived.Test.YtgdiebnokgnniaaGreatDoorTXJ
import Derived.Test.YtgdiebnokgnniaaGreatDoorGAB
namespace Go.Proofs.YtgdiebnokgnniaaGreatDoor
open Go.Ab

/- loop.example/g01343/spec.l01Dec -/
def f136.w (Q : Post) (n_0 : Value) (H : Heap) : Prop :=
  W.bin .lss n_0 (.int .i64 0) H fun v1 H =>
  W.cond v1 H
  (fun H => W.un .neg n_0 H fun v2 H =>
   W.call Tryz.prog (.func (.func 136) #[] #[]) #[v2] H fun v3 H =>
   W.bin .add (.string { data := #[45] }) v3 H fun v4 H =>
   Q v4 H)
  (fun H => W.bin .lss n_0 (.int .i64 10) H fun v5 H =>
   W.cond v5 H
   (fun H => W.bin .add (.int .i64 48) n_0 H fun v6 H =>
    W.conv .u8 v6 H fun v7 H =>
    W.lit 1 [(.int .u8 0)] 5 [(0, 1, v7)] H fun v8 H =>
    W.toStr v8 H fun v9 H =>
    Q v9 H)
   (fun H => W.bin .quo n_0 (.int .i64 10) H fun v10 H =>
    W.callQ Tryz.prog (.func (.func 136) #[] #[]) #[v10] H fun v11 H =>
    W.bin .rem n_0 (.int .i64 10) H fun v12 H =>
    W.bin .add (.int .i64 48) v12 H fun v13 H =>
    W.conv .u8 v13 H fun v14 H =>
    W.lit 1 [(.int .u8 0)] 5 [(0, 1, v14)] H fun v15 H =>
    W.toStr v15 H fun v16 H =>
    W.bin .add v11 v16 H fun v17 H =>
    Q v17 H))
theorem f136.enter {Q : Post} {n_0 : Value} {H : Heap} (h : f136.w Q n_0 H) : Runs Tryz.prog 136 #[n_0] H Q :=
  fn_enter (ann := []) (by kernel_rfl) Tryz.func136 rfl (by kernel_rfl) h (by kernel_rfl)

/- loop.example/g01343/spec.l01Number -/
def f151.l1 (Q : Post) (s_0 : Value) (I1 : St [3, 4] → Heap → Prop) (n_3 : Value) (i_4 : Value) (H : Heap) : Prop :=
  W.lenStr s_0 H fun v16 H =>
  W.bin .lss i_4 v16 H fun v17 H =>
  W.cond v17 H
  (fun H => W.indexStr s_0 i_4 H fun v18 H =>
   W.bin .lss v18 (.int .u8 48) H fun v19 H =>
   W.guarded v19 false (fun H k => k s_0 H) H fun v20 H =>
   W.guarded v19 false (fun H k => k i_4 H) H fun v21 H =>
   W.guarded v19 false (fun H k => W.indexStr v20 v21 H k) H fun v22 H =>
   W.guarded v19 false (fun H k => W.bin .gtr v22 (.int .u8 57) H k) H fun v23 H =>
   W.pick v19 (.bool true) v23 H fun v24 H =>
   W.cond v24 H
   (fun H => Q (.int .i64 (-1)) H)
   (fun H => W.bin .mul n_3 (.int .i64 10) H fun v25 H =>
    W.indexStr s_0 i_4 H fun v26 H =>
    W.bin .sub v26 (.int .u8 48) H fun v27 H =>
    W.conv .i64 v27 H fun v28 H =>
    W.bin .add v25 v28 H fun v29 H =>
    W.bin .add i_4 (.int .i64 1) H fun v30 H =>
    I1 (v29, v30, ()) H))
  (fun H => Q n_3 H)
def f151.w (Q : Post) (s_0 : Value) (H : Heap) : Prop :=
  W.lenStr s_0 H fun v1 H =>
  W.bin .eql v1 (.int .i64 0) H fun v2 H =>
  W.guarded v2 false (fun H k => k s_0 H) H fun v3 H =>
  W.guarded v2 false (fun H k => W.lenStr v3 H k) H fun v4 H =>
  W.guarded v2 false (fun H k => W.bin .gtr v4 (.int .i64 9) H k) H fun v5 H =>
  W.pick v2 (.bool true) v5 H fun v6 H =>
  W.guarded v6 false (fun H k => k s_0 H) H fun v7 H =>
  W.guarded v6 false (fun H k => W.lenStr v7 H k) H fun v8 H =>
  W.guarded v6 false (fun H k => W.bin .gtr v8 (.int .i64 1) H k) H fun v9 H =>
  W.guarded v6 false (fun H k => k v9 H) H fun v10 H =>
  W.guarded v10 true (fun H k => k s_0 H) H fun v11 H =>
  W.guarded v10 true (fun H k => W.indexStr v11 (.int .i64 0) H k) H fun v12 H =>
  W.guarded v10 true (fun H k => W.bin .eql v12 (.int .u8 48) H k) H fun v13 H =>
  W.guarded v6 false (fun H k => W.pick v10 v13 (.bool false) H k) H fun v14 H =>
  W.pick v6 (.bool true) v14 H fun v15 H =>
  W.cond v15 H
  (fun H => Q (.int .i64 (-1)) H)
  (fun H => W.loop (S := St [3, 4]) (fun I1 s H => f151.l1 Q s_0 I1 s.1 s.2.1 H) ((.int .i64 0), (.int .i64 0), ()) H)
theorem f151.enter {Q : Post} {s_0 : Value} {H : Heap} (h : f151.w Q s_0 H) : Runs Tryz.prog 151 #[s_0] H Q :=
  fn_enter (ann := [(5, [3, 4])]) (by kernel_rfl) Tryz.func151 rfl (by kernel_rfl) h (by kernel_rfl)

/- loop.example/g01343/spec.l01Signed -/
def f137.w (Q : Post) (s_0 : Value) (H : Heap) : Prop :=
  W.lenStr s_0 H fun v1 H =>
  W.bin .gtr v1 (.int .i64 0) H fun v2 H =>
  W.guarded v2 true (fun H k => k s_0 H) H fun v3 H =>
  W.guarded v2 true (fun H k => W.indexStr v3 (.int .i64 0) H k) H fun v4 H =>
  W.guarded v2 true (fun H k => W.bin .eql v4 (.int .u8 45) H k) H fun v5 H =>
  W.pick v2 v5 (.bool false) H fun v6 H =>
  W.cond v6 H
  (fun H => W.sliceStr s_0 (some (.int .i64 1)) none H fun v7 H =>
   W.call Tryz.prog (.func (.func 151) #[] #[]) #[v7] H fun v8 H =>
   W.un .neg v8 H fun v9 H =>
   W.bin .gtr v8 (.int .i64 0) H fun v10 H =>
   Q (.tuple #[v9, v10]) H)
  (fun H => W.call Tryz.prog (.func (.func 151) #[] #[]) #[s_0] H fun v11 H =>
   W.bin .geq v11 (.int .i64 0) H fun v12 H =>
   Q (.tuple #[v11, v12]) H)
theorem f137.enter {Q : Post} {s_0 : Value} {H : Heap} (h : f137.w Q s_0 H) : Runs Tryz.prog 137 #[s_0] H Q :=
  fn_enter (ann := []) (by kernel_rfl) Tryz.func137 rfl (by kernel_rfl) h (by kernel_rfl)

/- loop.example/g01343/spec.l01Split -/
def f117.j1 (Q : Post) (i_7 : Value) (I1 : St [5, 6, 7] → Heap → Prop) (out_5' : Value) (at_6' : Value) (H : Heap) : Prop :=
  W.bin .add i_7 (.int .i64 1) H fun v10 H =>
  I1 (out_5', at_6', v10, ()) H
def f117.l1 (Q : Post) (s_0 : Value) (by_1 : Value) (I1 : St [5, 6, 7] → Heap → Prop) (out_5 : Value) (at_6 : Value) (i_7 : Value) (H : Heap) : Prop :=
  W.lenStr s_0 H fun v2 H =>
  W.bin .lss i_7 v2 H fun v3 H =>
  W.cond v3 H
  (fun H => W.indexStr s_0 i_7 H fun v4 H =>
   W.bin .eql v4 by_1 H fun v5 H =>
   W.cond v5 H
   (fun H => W.sliceStr s_0 (some at_6) (some i_7) H fun v6 H =>
    W.lit 1 [(.string { data := #[] })] 9 [(0, 1, v6)] H fun v7 H =>
    W.append 1 9 out_5 v7 H fun v8 H =>
    W.bin .add i_7 (.int .i64 1) H fun v9 H =>
    f117.j1 Q i_7 I1 v8 v9 H)
   (fun H => f117.j1 Q i_7 I1 out_5 at_6 H))
  (fun H => W.sliceStr s_0 (some at_6) none H fun v11 H =>
   W.lit 1 [(.string { data := #[] })] 9 [(0, 1, v11)] H fun v12 H =>
   W.append 1 9 out_5 v12 H fun v13 H =>
   Q v13 H)
def f117.w (Q : Post) (s_0 : Value) (by_1 : Value) (H : Heap) : Prop :=
  W.lit 0 [(.string { data := #[] })] 9 [] H fun v1 H =>
  W.loop (S := St [5, 6, 7]) (fun I1 s H => f117.l1 Q s_0 by_1 I1 s.1 s.2.1 s.2.2.1 H) (v1, (.int .i64 0), (.int .i64 0), ()) H
theorem f117.enter {Q : Post} {s_0 : Value} {by_1 : Value} {H : Heap} (h : f117.w Q s_0 by_1 H) : Runs Tryz.prog 117 #[s_0, by_1] H Q :=
  fn_enter (ann := [(4, [5, 6, 7])]) (by kernel_rfl) Tryz.func117 rfl (by kernel_rfl) h (by kernel_rfl)

/- loop.example/g01343/spec.l01Numbers -/
def f116.j1 (Q : Post) (list_0 : Value) (i_4 : Value) (I1 : St [3, 4] → Heap → Prop) (text_3' : Value) (H : Heap) : Prop :=
  W.indexAddr 1 list_0 i_4 H fun v5 H =>
  W.get v5 H fun v6 H =>
  W.call Tryz.prog (.func (.func 136) #[] #[]) #[v6] H fun v7 H =>
  W.bin .add text_3' v7 H fun v8 H =>
  W.bin .add i_4 (.int .i64 1) H fun v9 H =>
  I1 (v8, v9, ()) H
def f116.l1 (Q : Post) (list_0 : Value) (I1 : St [3, 4] → Heap → Prop) (text_3 : Value) (i_4 : Value) (H : Heap) : Prop :=
  W.len list_0 H fun v1 H =>
  W.bin .lss i_4 v1 H fun v2 H =>
  W.cond v2 H
  (fun H => W.bin .gtr i_4 (.int .i64 0) H fun v3 H =>
   W.cond v3 H
   (fun H => W.bin .add text_3 (.string { data := #[44] }) H fun v4 H =>
    f116.j1 Q list_0 i_4 I1 v4 H)
   (fun H => f116.j1 Q list_0 i_4 I1 text_3 H))
  (fun H => Q text_3 H)
def f116.w (Q : Post) (list_0 : Value) (H : Heap) : Prop :=
  W.loop (S := St [3, 4]) (fun I1 s H => f116.l1 Q list_0 I1 s.1 s.2.1 H) ((.string { data := #[] }), (.int .i64 0), ()) H
theorem f116.enter {Q : Post} {list_0 : Value} {H : Heap} (h : f116.w Q list_0 H) : Runs Tryz.prog 116 #[list_0] H Q :=
  fn_enter (ann := [(3, [3, 4])]) (by kernel_rfl) Tryz.func116 rfl (by kernel_rfl) h (by kernel_rfl)

/- loop.example/g01343/spec.l01Text -/
def f78.j1 (Q : Post) (v1 : Value) (i_4 : Value) (I1 : St [3, 4] → Heap → Prop) (text_3' : Value) (H : Heap) : Prop :=
  W.fieldAddr 0 v1 H fun v8 H =>
  W.get v8 H fun v9 H =>
  W.indexAddr 1 v9 i_4 H fun v10 H =>
  W.get v10 H fun v11 H =>
  W.call Tryz.prog (.func (.func 116) #[] #[]) #[v11] H fun v12 H =>
  W.bin .add text_3' v12 H fun v13 H =>
  W.bin .add i_4 (.int .i64 1) H fun v14 H =>
  I1 (v13, v14, ()) H
def f78.l1 (Q : Post) (v1 : Value) (I1 : St [3, 4] → Heap → Prop) (text_3 : Value) (i_4 : Value) (H : Heap) : Prop :=
  W.fieldAddr 0 v1 H fun v2 H =>
  W.get v2 H fun v3 H =>
  W.len v3 H fun v4 H =>
  W.bin .lss i_4 v4 H fun v5 H =>
  W.cond v5 H
  (fun H => W.bin .gtr i_4 (.int .i64 0) H fun v6 H =>
   W.cond v6 H
   (fun H => W.bin .add text_3 (.string { data := #[59] }) H fun v7 H =>
    f78.j1 Q v1 i_4 I1 v7 H)
   (fun H => f78.j1 Q v1 i_4 I1 text_3 H))
  (fun H => W.bin .add text_3 (.string { data := #[47] }) H fun v15 H =>
   W.fieldAddr 1 v1 H fun v16 H =>
   W.get v16 H fun v17 H =>
   W.call Tryz.prog (.func (.func 116) #[] #[]) #[v17] H fun v18 H =>
   W.bin .add v15 v18 H fun v19 H =>
   Q v19 H)
def f78.w (Q : Post) (p_0 : Value) (H : Heap) : Prop :=
  W.box p_0 27 H fun v1 H =>
  W.loop (S := St [3, 4]) (fun I1 s H => f78.l1 Q v1 I1 s.1 s.2.1 H) ((.string { data := #[] }), (.int .i64 0), ()) H
theorem f78.enter {Q : Post} {p_0 : Value} {H : Heap} (h : f78.w Q p_0 H) : Runs Tryz.prog 78 #[p_0] H Q :=
  fn_enter (ann := [(3, [3, 4])]) (by kernel_rfl) Tryz.func78 rfl (by kernel_rfl) h (by kernel_rfl)

/- loop.example/g01343/spec.l01List -/
def f118.l1 (Q : Post) (v1 : Value) (I1 : St [5, 6] → Heap → Prop) (out_5 : Value) (i_6 : Value) (H : Heap) : Prop :=
  W.len v1 H fun v3 H =>
  W.bin .lss i_6 v3 H fun v4 H =>
  W.cond v4 H
  (fun H => W.indexAddr 1 v1 i_6 H fun v5 H =>
   W.get v5 H fun v6 H =>
   W.call Tryz.prog (.func (.func 137) #[] #[]) #[v6] H fun v7 H =>
   W.extract 0 v7 H fun v8 H =>
   W.extract 1 v7 H fun v9 H =>
   W.un .not v9 H fun v10 H =>
   W.cond v10 H
   (fun H => Q (.tuple #[(.slice none 0 0), (.bool false)]) H)
   (fun H => W.lit 1 [(.int .i64 0)] 2 [(0, 1, v8)] H fun v11 H =>
    W.append 1 2 out_5 v11 H fun v12 H =>
    W.bin .add i_6 (.int .i64 1) H fun v13 H =>
    I1 (v12, v13, ()) H))
  (fun H => Q (.tuple #[out_5, (.bool true)]) H)
def f118.w (Q : Post) (text_0 : Value) (H : Heap) : Prop :=
  W.call Tryz.prog (.func (.func 117) #[] #[]) #[text_0, (.int .u8 44)] H fun v1 H =>
  W.lit 0 [(.int .i64 0)] 2 [] H fun v2 H =>
  W.loop (S := St [5, 6]) (fun I1 s H => f118.l1 Q v1 I1 s.1 s.2.1 H) (v2, (.int .i64 0), ()) H
theorem f118.enter {Q : Post} {text_0 : Value} {H : Heap} (h : f118.w Q text_0 H) : Runs Tryz.prog 118 #[text_0] H Q :=
  fn_enter (ann := [(3, [5, 6])]) (by kernel_rfl) Tryz.func118 rfl (by kernel_rfl) h (by kernel_rfl)


theorem dec_pos : ∀ (m : Nat) (H : Heap) (Q : Post), m < 4611686018427387904 → (∀ H', H.Le H' → Q (str (Lib.decDigits m)) H') → Runs Tryz.prog 136 #[.int .i64 (m : Nat)] H Q := by
  intro m
  induction m using Nat.strongRecOn with
  | _ m ih =>
    intro H Q hm hQ
    refine f136.enter ?_
    unfold f136.w
    refine Wi.lssC (fun h => by omega) fun _ => Wi.fls (Wi.lssC (fun h => Wi.tru ?_) fun h => Wi.fls ?_)
    · have e : (48 : Int) + (m : Nat) = ((48 + m : Nat) : Int) := by omega
      refine Wi.add (by unfold I64; omega) ?_
      rw [e]
      refine Wi.convU8 (by omega) (Wi.byteStr fun H' l => ?_)
      rw [← Lib.decDigits_one (by omega)]
      exact hQ H' l
    · have hd : Lib.decDigits m = Lib.decDigits (m / 10) ++ [UInt8.ofNat (48 + m % 10)] := dec_step (by omega)
      refine Wi.quoN (b := 10) (by decide) (by omega) (Wi.callQ (ih (m / 10) (by omega) H _ (by omega) fun H' l => ⟨l, ?_⟩))
      refine Wi.remN (b := 10) (by decide) ?_
      have e : (48 : Int) + ((m % 10 : Nat) : Nat) = ((48 + m % 10 : Nat) : Int) := by omega
      refine Wi.add (by unfold I64; omega) ?_
      rw [e]
      refine Wi.convU8 (by omega) (Wi.byteStr fun H2 l2 => ?_)
      have hlen : (Lib.decDigits (m / 10)).length ≤ 19 := dec_len (k := 18) (by omega)
      refine Wi.cat (by simp; omega) ?_
      rw [← hd]
      exact hQ H2 (l.trans l2)

section
variable {H0 : Heap} {Q : Post}

theorem fn136 {n : Int} (hn : -4611686018427387904 < n ∧ n < 4611686018427387904) (hQ : ∀ H', H0.Le H' → Q (str (Lib.itoa n)) H') : Runs Tryz.prog 136 #[.int .i64 n] H0 Q := by
  rcases (by omega : n < 0 ∨ 0 ≤ n) with g | g
  · obtain ⟨m, rfl⟩ : ∃ m : Nat, n = -(m : Int) := ⟨n.natAbs, by omega⟩
    refine f136.enter ?_
    unfold f136.w
    refine Wi.lssC (fun _ => Wi.tru ?_) fun h => by omega
    refine Wi.neg (by unfold I64; omega) ?_
    rw [Int.neg_neg]
    refine Wi.call (dec_pos m _ _ (by omega) fun H' l => ?_)
    have hlen : (Lib.decDigits m).length ≤ 19 := dec_len (k := 18) (by omega)
    refine Wi.cat (a := [45]) (by simp; omega) ?_
    have := hQ H' l
    rw [Lib.itoa_neg m (by omega)] at this
    exact this
  · obtain ⟨m, rfl⟩ : ∃ m : Nat, n = (m : Int) := ⟨n.toNat, by omega⟩
    rw [Lib.itoa_nonneg] at hQ
    exact dec_pos m _ _ (by omega) hQ

/-- What the reference's reading of digits gives. -/
def numV (l : List UInt8) : Int := match natS l with | some n => (n : Int) | none => -1

theorem numV_no {l : List UInt8} (h : ¬ (l ≠ [] ∧ l.length ≤ 9 ∧ (l.length > 1 → l[0]? ≠ some 48) ∧ ∀ c ∈ l, isDig c)) : numV l = -1 := by
  unfold numV natS
  rw [if_neg h]

theorem fn151 {l : List UInt8} (hlen : l.length < 9223372036854775808) (hQ : Q (.int .i64 (numV l)) H0) : Runs Tryz.prog 151 #[str l] H0 Q := by
  refine f151.enter ?_
  unfold f151.w
  refine Wi.lenS (Wi.eqlC (fun h0 => ?_) fun h0 => ?_)
  · simp only [gw]
    rw [numV_no fun h => h.1 (List.eq_nil_of_length_eq_zero (by omega))] at hQ
    exact hQ
  have hl0 : 0 < l.length := by omega
  simp only [gw]
  refine Wi.lenS (Wi.gtrC (fun h9 => ?_) fun h9 => ?_)
  · simp only [gw]
    rw [numV_no fun h => by have := h.2.1; omega] at hQ
    exact hQ
  simp only [gw]
  have loop : (l.length > 1 → l[0]? ≠ some 48) → W.loop (S := St [3, 4]) (fun I1 s H => f151.l1 Q (str l) I1 s.1 s.2.1 H) ((.int .i64 0), (.int .i64 0), ()) H0 := fun hz => by
    refine W.for_rule l.length (fun x st H => st = (.int .i64 (valF 0 (l.take x) : Nat), .int .i64 (x : Nat), ()) ∧ (∀ c ∈ l.take x, isDig c) ∧ H = H0) ⟨rfl, by simp, rfl⟩ ?_
    rintro x st H J hx ⟨rfl, hd, rfl⟩ hJ
    refine Wi.lenS (Wi.lssC (fun hlt => Wi.tru ?_) fun hge => Wi.fls ?_)
    · have hxl : x < l.length := by omega
      have ht : l.take (x + 1) = l.take x ++ [l[x]] := by rw [List.take_succ_eq_append_getElem hxl]
      have hv := val_lt (l.take x) hd
      have hp : 10 ^ (l.take x).length ≤ 10 ^ 9 := Nat.pow_le_pow_right (by decide) (by rw [List.length_take]; omega)
      have hc256 : l[x].toNat < 256 := l[x].toNat_lt
      have bad : ¬ isDig l[x] → Q (.int .i64 (-1)) H := fun hnd => by
        rw [numV_no fun h => hnd (h.2.2.2 _ (List.getElem_mem hxl))] at hQ
        exact hQ
      refine Wi.atS hxl (Wi.lssC (fun h1 => ?_) fun h1 => ?_)
      · simp only [gw]
        exact bad fun h => by unfold isDig at h; omega
      simp only [gw]
      refine Wi.atS hxl (Wi.gtrC (fun h2 => ?_) fun h2 => ?_)
      · simp only [gw]
        exact bad fun h => by unfold isDig at h; omega
      simp only [gw]
      have hdig : isDig l[x] := ⟨by omega, by omega⟩
      refine Wi.mul (by unfold I64; omega) (Wi.atS hxl (Wi.subU8 (b := 48) hdig.1 hc256 (Wi.convI (by unfold I64; omega) (Wi.add (by unfold I64; omega) (Wi.add (by unfold I64; omega) (hJ _ _ hxl ⟨?_, ?_, rfl⟩))))))
      · rw [ht, valF_snoc]
        push_cast
        rfl
      · intro c hc
        rw [ht, List.mem_append, List.mem_singleton] at hc
        rcases hc with hc | rfl
        · exact hd c hc
        · exact hdig
    · have hxl : x = l.length := by omega
      subst hxl
      rw [List.take_length] at hd ⊢
      have e : numV l = (valF 0 l : Nat) := by
        unfold numV natS
        rw [if_pos ⟨fun e => by rw [e] at hl0; simp at hl0, by omega, hz, hd⟩]
      rw [e] at hQ
      exact hQ
  refine Wi.lenS (Wi.gtrC (fun h1 => ?_) fun h1 => ?_)
  · simp only [gw]
    refine Wi.atS (i := 0) (by omega) (Wi.eqlC (fun h2 => ?_) fun h2 => ?_)
    · simp only [gw]
      rw [numV_no fun h => h.2.2.1 (by omega) (by
        rw [List.getElem?_eq_getElem hl0]
        congr 1
        apply UInt8.toNat_inj.1
        show _ = 48
        omega)] at hQ
      exact hQ
    · simp only [gw]
      refine loop fun _ e => h2 ?_
      rw [List.getElem?_eq_getElem hl0] at e
      rw [Option.some.inj e]
      rfl
  · simp only [gw]
    exact loop fun h => absurd h (by omega)

theorem fn137 {l : List UInt8} (hlen : l.length < 9223372036854775808) (hok : ∀ v, numS l = some v → Q (.tuple #[.int .i64 v, .bool true]) H0) (hno : numS l = none → ∀ n, Q (.tuple #[.int .i64 n, .bool false]) H0) :
    Runs Tryz.prog 137 #[str l] H0 Q := by
  refine f137.enter ?_
  unfold f137.w
  have hv : ∀ r : List UInt8, -1 ≤ numV r ∧ numV r < 1000000000 := fun r => by
    unfold numV
    cases h : natS r with
    | none => exact ⟨by decide, by decide⟩
    | some n => have := (natS_iff.1 h).2; exact ⟨by show (-1 : Int) ≤ (n : Int); omega, by show (n : Int) < _; omega⟩
  have plain : (∀ r, l ≠ 45 :: r) → W.call Tryz.prog (.func (.func 151) #[] #[]) #[str l] H0 fun v11 H => W.bin .geq v11 (.int .i64 0) H fun v12 H => Q (.tuple #[v11, v12]) H := fun hne => by
    have e : numS l = match natS l with | some n => some (n : Int) | none => none := by
      unfold numS
      cases l with
      | nil => simp [natS]
      | cons c r =>
        have hc : ¬ c = 45 := fun e => hne r (by rw [e])
        simp only [if_neg hc]
        cases natS (c :: r) <;> rfl
    refine Wi.call (fn151 hlen (Wi.geqC (fun h => ?_) fun h => ?_))
    · cases hs : natS l with
      | none => unfold numV at h; rw [hs] at h; exact absurd h (by decide)
      | some n =>
        have h1 : numV l = n := by unfold numV; rw [hs]
        rw [h1]
        exact hok n (by rw [e, hs])
    · cases hs : natS l with
      | none => exact hno (by rw [e, hs]) _
      | some n => unfold numV at h; rw [hs] at h; exact absurd (Int.natCast_nonneg n) h
  refine Wi.lenS (Wi.gtrC (fun h0 => ?_) fun h0 => ?_)
  · simp only [gw]
    have hl0 : 0 < l.length := by omega
    refine Wi.atS (i := 0) hl0 (Wi.eqlC (fun h1 => ?_) fun h1 => ?_)
    · simp only [gw]
      obtain ⟨r, rfl⟩ : ∃ r, l = 45 :: r := by
        cases l with
        | nil => simp at hl0
        | cons c r =>
          refine ⟨r, ?_⟩
          simp only [List.getElem_cons_zero] at h1
          congr 1
          apply UInt8.toNat_inj.1
          show _ = 45
          omega
      have e : numS (45 :: r) = match natS r with | some n => if 0 < n then some (-(n : Int)) else none | none => none := by
        unfold numS
        simp only [if_true]
        cases natS r <;> rfl
      have hvr := hv r
      refine Wi.dropS (a := 1) (by omega) (Wi.call (fn151 (l := r) (by simp at hlen; omega) (Wi.neg (by unfold I64; omega) (Wi.gtrC (fun h => ?_) fun h => ?_))))
      · cases hs : natS r with
        | none => unfold numV at h; rw [hs] at h; exact absurd h (by decide)
        | some n =>
          have h1 : numV r = n := by unfold numV; rw [hs]
          rw [h1] at h ⊢
          exact hok _ (by rw [e, hs]; simp only; rw [if_pos (by omega)])
      · refine hno ?_ _
        rw [e]
        cases hs : natS r with
        | none => rfl
        | some n =>
          have h1 : numV r = n := by unfold numV; rw [hs]
          rw [h1] at h
          simp only
          rw [if_neg (by omega)]
    · simp only [gw]
      refine plain fun r e => h1 ?_
      subst e
      rfl
  · simp only [gw]
    exact plain fun r e => h0 (by rw [e, List.length_cons]; omega)

theorem fn117 {l : List UInt8} {c : UInt8} (hlen : l.length ≤ 4294967000) (hQ : ∀ H' u, Fresh RStrs H0 [u] (splitL c l) H' → Q u H') : Runs Tryz.prog 117 #[str l, .int .u8 (c.toNat : Nat)] H0 Q := by
  refine f117.enter ?_
  unfold f117.w
  refine Wl.lit0 (ty := 9) Rd.str rfl (Loc.start H0) fun H u h => ?_
  refine W.for_rule l.length (fun x st H => ∃ u out at6, st = (u, .int .i64 (at6 : Nat), .int .i64 (x : Nat), ()) ∧ at6 ≤ x ∧ splitL c (l.take x) = out ++ [(l.take x).drop at6] ∧ out.length ≤ x ∧ Ab.Loc H0 (.grow Rd.str 9 u out :: []) H) ⟨u, [], 0, rfl, Nat.le_refl _, by simp [splitL], by simp, h⟩ ?_
  rintro x st H J hx ⟨u, out, a, rfl, ha, hs, hol, h⟩ hJ
  refine Wi.lenS (Wi.lssC (fun hlt => Wi.tru ?_) fun hge => Wi.fls ?_)
  · have hxl : x < l.length := by omega
    have ht : l.take (x + 1) = l.take x ++ [l[x]] := by rw [List.take_succ_eq_append_getElem hxl]
    have hsn := splitL_snoc (x := l[x]) hs
    refine Wi.atS hxl (Wi.eqlC (fun he => Wi.tru ?_) fun he => Wi.fls ?_)
    · have hc : l[x] = c := UInt8.toNat_inj.1 (by omega)
      rw [if_pos hc, ← ht] at hsn
      refine Wi.subS ha (by omega) (Wl.pushP (r := Rd.str) (x := (l.take x).drop a) (i := 0) rfl rfl rfl (fun _ => ⟨rfl, rfl⟩) h (by omega) fun H u' h => Wi.add (by unfold I64; omega) ?_)
      unfold f117.j1
      refine Wi.add (by unfold I64; omega) (hJ _ _ hxl ⟨u', out ++ [(l.take x).drop a], x + 1, rfl, Nat.le_refl _, ?_, by simp; omega, h⟩)
      have e0 : (l.take (x + 1)).drop (x + 1) = [] := List.drop_eq_nil_of_le (by rw [List.length_take]; omega)
      rw [hsn, e0]
    · have hc : ¬ l[x] = c := fun e => he (by rw [e])
      rw [if_neg hc, ← ht] at hsn
      unfold f117.j1
      refine Wi.add (by unfold I64; omega) (hJ _ _ hxl ⟨u, out, a, rfl, by omega, ?_, by omega, h⟩)
      rw [hsn, ht, List.drop_append_of_le_length (by rw [List.length_take]; omega)]
  · have hxl : x = l.length := by omega
    subst hxl
    rw [List.take_length] at hs
    refine Wi.dropS (by omega) (Wl.pushP (r := Rd.str) (x := l.drop a) (i := 0) rfl rfl rfl (fun _ => ⟨rfl, rfl⟩) h (by omega) fun H u' h => ?_)
    have h : Ab.Loc H0 (.grow Rd.str 9 u' (out ++ [l.drop a]) :: []) H := h
    rw [← hs] at h
    exact hQ _ _ ((h.asData (i := 0) rfl).ret (i := 0) rfl)

theorem joinI_snoc {c : UInt8} {xs : List Int} {x : Int} : joinI c (xs ++ [x]) = if xs = [] then Lib.itoa x else joinI c xs ++ c :: Lib.itoa x := by
  cases xs with
  | nil => simp [joinI, Lib.join_one]
  | cons y r =>
    rw [if_neg (by simp)]
    unfold joinI
    rw [List.cons_append, List.map_cons, List.map_cons, Lib.join_cons, Lib.join_cons, List.map_append]
    simp [Lib.joinTail]

theorem rowsT_snoc {xs : List (List Int)} {x : List Int} : rowsT (xs ++ [x]) = if xs = [] then joinI 44 x else rowsT xs ++ 59 :: joinI 44 x := by
  cases xs with
  | nil => simp [rowsT, Lib.join_one]
  | cons y r =>
    rw [if_neg (by simp)]
    unfold rowsT
    rw [List.cons_append, List.map_cons, List.map_cons, Lib.join_cons, Lib.join_cons, List.map_append]
    simp [Lib.joinTail]

theorem fn116 {v : Value} {l : List Int} (hr : Has RS H0 [v] l) (hx : ∀ x ∈ l, x.natAbs ≤ 1000000000000) (hlen : l.length ≤ 1048576) (hQ : ∀ H', H0.Le H' → Q (str (joinI 44 l)) H') : Runs Tryz.prog 116 #[v] H0 Q := by
  refine f116.enter ?_
  unfold f116.w
  have h := (Loc.start H0).lent hr
  refine W.for_rule l.length (fun x st H => st = (str (joinI 44 (l.take x)), .int .i64 (x : Nat), ()) ∧ Ab.Loc H0 (.lent RS [v] l :: []) H) ⟨rfl, h⟩ ?_
  rintro x st H J hx2 ⟨rfl, h⟩ hJ
  refine Wl.len h (Wi.lssC (fun hlt => Wi.tru ?_) fun hge => Wi.fls ?_)
  · have hxl : x < l.length := by omega
    have ht : l.take (x + 1) = l.take x ++ [l[x]] := by rw [List.take_succ_eq_append_getElem hxl]
    have hb := joinI_len (c := 44) (l := l.take x) fun y hy => hr.i64 y (List.mem_of_mem_take hy)
    rw [List.length_take] at hb
    have hxx := hx _ (List.getElem_mem hxl)
    have hI : ∀ t, joinI 44 (l.take (x + 1)) = t ++ Lib.itoa l[x] → t.length ≤ 23068673 → f116.j1 Q v (.int .i64 (x : Nat)) J (str t) H := fun t e htl => by
      unfold f116.j1
      have hil : (Lib.itoa l[x]).length ≤ 21 := Lib.itoa_length_le _ (by omega) (by omega)
      refine Wl.atInt (xs := l) h hxl fun hi => Wi.call (fn136 (by omega) fun H l1 => Wi.cat (by omega) (Wi.add (by unfold I64; omega) (hJ _ _ hxl ⟨by rw [e]; rfl, h.to l1⟩)))
    refine Wi.gtrC (fun h0 => Wi.tru ?_) fun h0 => Wi.fls ?_
    · refine Wi.cat (b := [44]) (by simp; omega) (hI _ ?_ (by simp; omega))
      rw [ht, joinI_snoc, if_neg (fun e => by have g := congrArg List.length e; rw [List.length_take, List.length_nil] at g; omega)]
      simp
    · have hx0 : x = 0 := by omega
      subst hx0
      refine hI _ ?_ (by simp [joinI, Lib.join_nil])
      rw [ht, joinI_snoc]
      simp [joinI, Lib.join_nil]
  · have hxl : x = l.length := by omega
    rw [hxl, List.take_length]
    exact hQ _ h.le

theorem fn78 {cs : List Value} {p : Prob} (hr : Has RProblem H0 cs p) (h1 : p.1.length ≤ 1048576) (h2 : ∀ r ∈ p.1, r.length ≤ 1048576 ∧ ∀ x ∈ r, x.natAbs ≤ 1000000000000) (h3 : p.2.length ≤ 1048576) (h4 : ∀ x ∈ p.2, x.natAbs ≤ 1000000000000) (hQ : ∀ H', H0.Le H' → Q (str (textP p)) H') :
    Runs Tryz.prog 78 #[.agg cs.toArray] H0 Q := by
  obtain ⟨u1, u2, rfl, r1, r2⟩ := hasProb hr
  refine f78.enter ?_
  unfold f78.w
  have h := ((Loc.start H0).lent r1).lent r2
  have hb1 : ∀ x, x ≤ p.1.length → (rowsT (p.1.take x)).length ≤ 1048576 * (23068672 + 1) := fun x hx => by
    have := join_len (c := 59) (B := 23068672) (ps := (p.1.take x).map (joinI 44)) fun t ht => by
      obtain ⟨r, hrm, rfl⟩ := List.mem_map.1 ht
      have e1 := joinI_len (c := 44) (l := r) (has_i64s r1 r (List.mem_of_mem_take hrm))
      have e2 := (h2 r (List.mem_of_mem_take hrm)).1
      omega
    rw [List.length_map, List.length_take] at this
    have e3 : min x p.1.length * (23068672 + 1) ≤ 1048576 * (23068672 + 1) := Nat.mul_le_mul_right _ (by omega)
    have e4 : (rowsT (p.1.take x)).length ≤ min x p.1.length * (23068672 + 1) := this
    exact Nat.le_trans e4 e3
  have hrow : ∀ r ∈ p.1, (joinI 44 r).length ≤ 23068672 := fun r hrm => by
    have e1 := joinI_len (c := 44) (l := r) (has_i64s r1 r hrm)
    have e2 := (h2 r hrm).1
    omega
  refine Wl.box h fun H b h => ?_
  refine W.for_rule p.1.length (fun x st H => st = (str (rowsT (p.1.take x)), .int .i64 (x : Nat), ()) ∧ Ab.Loc H0 (.box b [u1, u2] :: .lent RS [u2] p.2 :: .lent RSS [u1] p.1 :: []) H) ⟨rfl, h⟩ ?_
  rintro x st H J hx ⟨rfl, h⟩ hJ
  refine Wi.fieldAddr (Wl.get h rfl (Wl.lenH (h.rd (cs := [u1]) (r := RSS) (x := p.1)) (Wi.lssC (fun hlt => Wi.tru ?_) fun hge => Wi.fls ?_)))
  · have hxl : x < p.1.length := by omega
    have ht : p.1.take (x + 1) = p.1.take x ++ [p.1[x]] := by rw [List.take_succ_eq_append_getElem hxl]
    have hb := hb1 x (by omega)
    have hI : ∀ t, rowsT (p.1.take (x + 1)) = t ++ joinI 44 p.1[x] → t.length ≤ 1048576 * (23068672 + 1) + 1 → f78.j1 Q (pt b 0) (.int .i64 (x : Nat)) J (str t) H := fun t e htl => by
      unfold f78.j1
      have hrm := List.getElem_mem hxl
      have e5 := hrow _ hrm
      refine Wi.fieldAddr (Wl.get h rfl (Wl.at1H (r := RS) rfl (h.rd (cs := [u1]) (x := p.1)) hxl fun u hu => Wi.call (fn116 hu (h2 _ hrm).2 (h2 _ hrm).1 fun H l1 => Wi.cat (by omega) (Wi.add (by unfold I64; omega) (hJ _ _ hxl ⟨by rw [e]; rfl, h.to l1⟩)))))
    refine Wi.gtrC (fun h0 => Wi.tru ?_) fun h0 => Wi.fls ?_
    · refine Wi.cat (b := [59]) (by simp; omega) (hI _ ?_ (by simp; omega))
      rw [ht, rowsT_snoc, if_neg (fun e => by have g := congrArg List.length e; rw [List.length_take, List.length_nil] at g; omega)]
      simp
    · have hx0 : x = 0 := by omega
      subst hx0
      refine hI _ ?_ (by simp [rowsT, Lib.join_nil])
      rw [ht, rowsT_snoc]
      simp [rowsT, Lib.join_nil]
  · have hxl : x = p.1.length := by omega
    rw [hxl, List.take_length]
    have hb := hb1 p.1.length (Nat.le_refl _)
    rw [List.take_length] at hb
    have hq := joinI_len (c := 44) (l := p.2) r2.i64
    refine Wi.cat (b := [47]) (by simp; omega) (Wi.fieldAddr (Wl.get h rfl (Wi.call (fn116 (h.rd (cs := [u2]) (x := p.2)) h4 h3 fun H l1 => Wi.cat (by simp; omega) ?_))))
    have e : rowsT p.1 ++ [47] ++ joinI 44 p.2 = textP p := by simp [textP]
    rw [e]
    exact hQ _ (h.to l1).le

theorem fn118 {l : List UInt8} (hlen : l.length ≤ 4294967000) (hok : ∀ xs, listO numS l = some xs → ∀ H' u, FreshG Rd.int 2 H0 u xs H' → Q (.tuple #[u, .bool true]) H') (hno : listO numS l = none → ∀ H', H0.Le H' → Q (.tuple #[.slice none 0 0, .bool false]) H') :
    Runs Tryz.prog 118 #[str l] H0 Q := by
  refine f118.enter ?_
  unfold f118.w
  refine Wi.call (fn117 (c := 44) hlen fun H v1 f => ?_)
  have h := (Loc.start H0).add f
  have hc : (splitL 44 l).length ≤ l.length + 1 := splitL_cnt
  refine Wl.lit0 (ty := 2) Rd.int rfl h fun H u h => ?_
  refine W.for_rule (splitL 44 l).length (fun x st H => ∃ u xs, st = (u, .int .i64 (x : Nat), ()) ∧ mapO numS ((splitL 44 l).take x) = some xs ∧ Ab.Loc H0 (.grow Rd.int 2 u xs :: .data RStrs [v1] (splitL 44 l) :: []) H) ⟨_, [], rfl, by simp [mapO], h⟩ ?_
  rintro x st H J hx ⟨u, xs, rfl, hm, h⟩ hJ
  refine Wl.lenH (h.rd (cs := [v1]) (r := RStrs) (x := splitL 44 l)) (Wi.lssC (fun hlt => Wi.tru ?_) fun hge => Wi.fls ?_)
  · have hxl : x < (splitL 44 l).length := by omega
    have ht : (splitL 44 l).take (x + 1) = (splitL 44 l).take x ++ [(splitL 44 l)[x]] := by rw [List.take_succ_eq_append_getElem hxl]
    have hxs : xs.length = x := by rw [mapO_length hm, List.length_take]; omega
    refine Wl.atStrH (h.rd (cs := [v1]) (x := splitL 44 l)) hxl (Wi.call (fn137 (by have := splitL_len (List.getElem_mem hxl); omega) (fun v hv => ?_) fun hv n => ?_))
    · simp only [gw]
      have hb := (numS_iff.1 hv).2
      refine Wl.pushP (r := Rd.int) (x := v) (i := 0) rfl rfl rfl (fun _ => ⟨rfl, rfl, by unfold I64; omega⟩) h (by omega) fun H u' h => Wi.add (by unfold I64; omega) (hJ _ _ hxl ⟨u', xs ++ [v], rfl, ?_, h⟩)
      rw [ht, mapO_snoc hm, hv]
      rfl
    · simp only [gw]
      exact hno (mapO_no (List.getElem_mem hxl) hv) _ h.le
  · have hxl : x = (splitL 44 l).length := by omega
    rw [hxl, List.take_length] at hm
    exact hok xs hm _ _ (h.retGG (i := 0) rfl)

end
end Go.Proofs.YtgdiebnokgnniaaGreatDoor
