/- Draws: sources, numbers, matrices. No condition. -/
import Derived.Test.YthfcodelpebjcaaGreatGAB
import Derived.Test.YthfcodelpebjcaaGreatZabSrc
import Derived.Test.YthfcodelpebjcaaGreatZabG8
import Derived.Test.YthfcodelpebjcaaGreatZabG9
import Derived.Test.YthfcodelpebjcaaGreatGDD
import Derived.Test.YthfcodelpebjcaaGreatGVV
import Derived.Test.YthfcodelpebjcaaGreatZabG6
namespace Go.Proofs.YthfcodelpebjcaaGreat
open Go.Ab

/- loop.example/g01343/spec.l01From -/
def f45.l1 (Q : Post) (code_0 : Value) (v5 : Value) (I1 : St [4] → Heap → Prop) (i_4 : Value) (H : Heap) : Prop :=
  W.len code_0 H fun v6 H =>
  W.bin .lss i_4 v6 H fun v7 H =>
  W.guarded v7 true (fun H k => k i_4 H) H fun v8 H =>
  W.guarded v7 true (fun H k => W.bin .lss v8 (.int .i64 4096) H k) H fun v9 H =>
  W.pick v7 v9 (.bool false) H fun v10 H =>
  W.cond v10 H
  (fun H => W.nilCheck v5 H fun v11 H =>
   W.fieldAddr 2 v11 H fun v12 H =>
   W.get v12 H fun v13 H =>
   W.bin .mul v13 (.int .u64 1099511628211) H fun v14 H =>
   W.indexAddr 1 code_0 i_4 H fun v15 H =>
   W.get v15 H fun v16 H =>
   W.conv .u64 v16 H fun v17 H =>
   W.bin .add v14 v17 H fun v18 H =>
   W.bin .add v18 (.int .u64 167) H fun v19 H =>
   W.nilCheck v5 H fun v20 H =>
   W.fieldAddr 2 v20 H fun v21 H =>
   W.put v21 v19 H fun _ H =>
   W.bin .add i_4 (.int .i64 1) H fun v22 H =>
   I1 (v22, ()) H)
  (fun H => Q v5 H)
def f45.w (Q : Post) (code_0 : Value) (H : Heap) : Prop :=
  W.len code_0 H fun v1 H =>
  W.conv .u64 v1 H fun v2 H =>
  W.bin .add (.int .u64 13431) v2 H fun v3 H =>
  W.build [(.slice none 0 0), (.int .i64 0), (.int .u64 0)] [(0, 1, code_0), (2, 1, v3)] H fun v4 H =>
  W.box v4 103 H fun v5 H =>
  W.loop (S := St [4]) (fun I1 s H => f45.l1 Q code_0 v5 I1 s.1 H) ((.int .i64 0), ()) H
theorem f45.enter {Q : Post} {code_0 : Value} {H : Heap} (h : f45.w Q code_0 H) : Runs Tryz.prog 45 #[code_0] H Q :=
  fn_enter (ann := [(3, [4])]) (by kernel_rfl) Tryz.func45 rfl (by kernel_rfl) h (by kernel_rfl)

/- loop.example/g01343/spec.l01Next -/
def f55.j1 (Q : Post) (n_1 : Value) (x_5 : Value) (H : Heap) : Prop :=
  W.bin .rem x_5 n_1 H fun v39 H =>
  Q v39 H
def f55.w (Q : Post) (s_0 : Value) (n_1 : Value) (H : Heap) : Prop :=
  W.bin .lss n_1 (.int .i64 1) H fun v1 H =>
  W.cond v1 H
  (fun H => Q (.int .i64 0) H)
  (fun H => W.nilCheck s_0 H fun v2 H =>
   W.fieldAddr 2 v2 H fun v3 H =>
   W.get v3 H fun v4 H =>
   W.bin .mul v4 (.int .u64 6364136223846793005) H fun v5 H =>
   W.bin .add v5 (.int .u64 1442695040888963407) H fun v6 H =>
   W.nilCheck s_0 H fun v7 H =>
   W.fieldAddr 2 v7 H fun v8 H =>
   W.put v8 v6 H fun _ H =>
   W.nilCheck s_0 H fun v9 H =>
   W.fieldAddr 2 v9 H fun v10 H =>
   W.get v10 H fun v11 H =>
   W.bin .shr v11 (.int .u64 31) H fun v12 H =>
   W.bin .and v12 (.int .u64 1073741823) H fun v13 H =>
   W.conv .i64 v13 H fun v14 H =>
   W.nilCheck s_0 H fun v15 H =>
   W.fieldAddr 1 v15 H fun v16 H =>
   W.get v16 H fun v17 H =>
   W.nilCheck s_0 H fun v18 H =>
   W.fieldAddr 0 v18 H fun v19 H =>
   W.get v19 H fun v20 H =>
   W.len v20 H fun v21 H =>
   W.bin .lss v17 v21 H fun v22 H =>
   W.cond v22 H
   (fun H => W.nilCheck s_0 H fun v23 H =>
    W.fieldAddr 0 v23 H fun v24 H =>
    W.get v24 H fun v25 H =>
    W.nilCheck s_0 H fun v26 H =>
    W.fieldAddr 1 v26 H fun v27 H =>
    W.get v27 H fun v28 H =>
    W.indexAddr 1 v25 v28 H fun v29 H =>
    W.get v29 H fun v30 H =>
    W.conv .i64 v30 H fun v31 H =>
    W.bin .add v14 v31 H fun v32 H =>
    W.nilCheck s_0 H fun v33 H =>
    W.fieldAddr 1 v33 H fun v34 H =>
    W.get v34 H fun v35 H =>
    W.bin .add v35 (.int .i64 1) H fun v36 H =>
    W.nilCheck s_0 H fun v37 H =>
    W.fieldAddr 1 v37 H fun v38 H =>
    W.put v38 v36 H fun _ H =>
    f55.j1 Q n_1 v32 H)
   (fun H => f55.j1 Q n_1 v14 H))
theorem f55.enter {Q : Post} {s_0 : Value} {n_1 : Value} {H : Heap} (h : f55.w Q s_0 n_1 H) : Runs Tryz.prog 55 #[s_0, n_1] H Q :=
  fn_enter (ann := []) (by kernel_rfl) Tryz.func55 rfl (by kernel_rfl) h (by kernel_rfl)

/- loop.example/g01343/spec.l01Pick -/
def f54.w (Q : Post) (s_0 : Value) (list_1 : Value) (H : Heap) : Prop :=
  W.len list_1 H fun v1 H =>
  W.call Tryz.prog (.func (.func 55) #[] #[]) #[s_0, v1] H fun v2 H =>
  W.indexAddr 1 list_1 v2 H fun v3 H =>
  W.get v3 H fun v4 H =>
  Q v4 H
theorem f54.enter {Q : Post} {s_0 : Value} {list_1 : Value} {H : Heap} (h : f54.w Q s_0 list_1 H) : Runs Tryz.prog 54 #[s_0, list_1] H Q :=
  fn_enter (ann := []) (by kernel_rfl) Tryz.func54 rfl (by kernel_rfl) h (by kernel_rfl)

/- loop.example/g01343/spec.l01DrawPart -/
def f126.w (Q : Post) (s_0 : Value) (most_1 : Value) (H : Heap) : Prop :=
  W.bin .mul (.int .i64 2) most_1 H fun v1 H =>
  W.bin .add v1 (.int .i64 1) H fun v2 H =>
  W.call Tryz.prog (.func (.func 55) #[] #[]) #[s_0, v2] H fun v3 H =>
  W.bin .sub v3 most_1 H fun v4 H =>
  Q v4 H
theorem f126.enter {Q : Post} {s_0 : Value} {most_1 : Value} {H : Heap} (h : f126.w Q s_0 most_1 H) : Runs Tryz.prog 126 #[s_0, most_1] H Q :=
  fn_enter (ann := []) (by kernel_rfl) Tryz.func126 rfl (by kernel_rfl) h (by kernel_rfl)

/- loop.example/g01343/spec.l01DrawM -/
def f124.l2 (Q : Post) (n_1 : Value) (s_0 : Value) (most_2 : Value) (out_7 : Value) (i_8 : Value) (I1 : St [7, 8] → Heap → Prop) (I2 : St [9, 10] → Heap → Prop) (row_9 : Value) (k_10 : Value) (H : Heap) : Prop :=
  W.bin .lss k_10 n_1 H fun v4 H =>
  W.cond v4 H
  (fun H => W.call Tryz.prog (.func (.func 126) #[] #[]) #[s_0, most_2] H fun v5 H =>
   W.lit 3 [(.int .i64 0)] 2 [(0, 1, (.int .i64 0)), (1, 1, (.int .i64 1)), (2, 1, (.int .i64 1))] H fun v6 H =>
   W.call Tryz.prog (.func (.func 54) #[] #[]) #[s_0, v6] H fun v7 H =>
   W.bin .mul v5 v7 H fun v8 H =>
   W.lit 1 [(.int .i64 0)] 2 [(0, 1, v8)] H fun v9 H =>
   W.append 1 2 row_9 v9 H fun v10 H =>
   W.bin .add k_10 (.int .i64 1) H fun v11 H =>
   I2 (v10, v11, ()) H)
  (fun H => W.lit 1 [(.slice none 0 0)] 25 [(0, 1, row_9)] H fun v12 H =>
   W.append 1 25 out_7 v12 H fun v13 H =>
   W.bin .add i_8 (.int .i64 1) H fun v14 H =>
   I1 (v13, v14, ()) H)
def f124.l1 (Q : Post) (n_1 : Value) (s_0 : Value) (most_2 : Value) (I1 : St [7, 8] → Heap → Prop) (out_7 : Value) (i_8 : Value) (H : Heap) : Prop :=
  W.bin .lss i_8 n_1 H fun v2 H =>
  W.cond v2 H
  (fun H => W.lit 0 [(.int .i64 0)] 2 [] H fun v3 H =>
   W.loop (S := St [9, 10]) (fun I2 s H => f124.l2 Q n_1 s_0 most_2 out_7 i_8 I1 I2 s.1 s.2.1 H) (v3, (.int .i64 0), ()) H)
  (fun H => Q out_7 H)
def f124.w (Q : Post) (s_0 : Value) (n_1 : Value) (most_2 : Value) (H : Heap) : Prop :=
  W.lit 0 [(.slice none 0 0)] 25 [] H fun v1 H =>
  W.loop (S := St [7, 8]) (fun I1 s H => f124.l1 Q n_1 s_0 most_2 I1 s.1 s.2.1 H) (v1, (.int .i64 0), ()) H
theorem f124.enter {Q : Post} {s_0 : Value} {n_1 : Value} {most_2 : Value} {H : Heap} (h : f124.w Q s_0 n_1 most_2 H) : Runs Tryz.prog 124 #[s_0, n_1, most_2] H Q :=
  fn_enter (ann := [(3, [7, 8]), (7, [9, 10])]) (by kernel_rfl) Tryz.func124 rfl (by kernel_rfl) h (by kernel_rfl)

/- loop.example/g01343/spec.l01DrawP -/
def f84.l2 (Q : Post) (n_1 : Value) (v4 : Value) (s_0 : Value) (i_6 : Value) (I1 : St [6] → Heap → Prop) (I2 : St [8, 9] → Heap → Prop) (sum_8 : Value) (k_9 : Value) (H : Heap) : Prop :=
  W.bin .lss k_9 n_1 H fun v6 H =>
  W.cond v6 H
  (fun H => W.indexAddr 1 v4 k_9 H fun v7 H =>
   W.get v7 H fun v8 H =>
   W.indexAddr 1 v4 k_9 H fun v9 H =>
   W.get v9 H fun v10 H =>
   W.un .neg v10 H fun v11 H =>
   W.max2 v8 v11 H fun v12 H =>
   W.bin .add sum_8 v12 H fun v13 H =>
   W.bin .add k_9 (.int .i64 1) H fun v14 H =>
   I2 (v13, v14, ()) H)
  (fun H => W.call Tryz.prog (.func (.func 55) #[] #[]) #[s_0, (.int .i64 3)] H fun v15 H =>
   W.bin .add sum_8 v15 H fun v16 H =>
   W.indexAddr 1 v4 i_6 H fun v17 H =>
   W.put v17 v16 H fun _ H =>
   W.bin .add i_6 (.int .i64 1) H fun v18 H =>
   I1 (v18, ()) H)
def f84.l1 (Q : Post) (n_1 : Value) (v1 : Value) (s_0 : Value) (I1 : St [6] → Heap → Prop) (i_6 : Value) (H : Heap) : Prop :=
  W.bin .lss i_6 n_1 H fun v2 H =>
  W.cond v2 H
  (fun H => W.indexAddr 1 v1 i_6 H fun v3 H =>
   W.get v3 H fun v4 H =>
   W.indexAddr 1 v4 i_6 H fun v5 H =>
   W.put v5 (.int .i64 0) H fun _ H =>
   W.loop (S := St [8, 9]) (fun I2 s H => f84.l2 Q n_1 v4 s_0 i_6 I1 I2 s.1 s.2.1 H) ((.int .i64 1), (.int .i64 0), ()) H)
  (fun H => Q v1 H)
def f84.w (Q : Post) (s_0 : Value) (n_1 : Value) (H : Heap) : Prop :=
  W.call Tryz.prog (.func (.func 124) #[] #[]) #[s_0, n_1, (.int .i64 3)] H fun v1 H =>
  W.loop (S := St [6]) (fun I1 s H => f84.l1 Q n_1 v1 s_0 I1 s.1 H) ((.int .i64 0), ()) H
theorem f84.enter {Q : Post} {s_0 : Value} {n_1 : Value} {H : Heap} (h : f84.w Q s_0 n_1 H) : Runs Tryz.prog 84 #[s_0, n_1] H Q :=
  fn_enter (ann := [(3, [6]), (8, [8, 9])]) (by kernel_rfl) Tryz.func84 rfl (by kernel_rfl) h (by kernel_rfl)


abbrev RBytes : Rd (List Int) := Rd.slice Rd.u8

section
variable {H0 H : Heap} {L : List (Atom H0.next)} {Q : Post} {b i : Nat} {vc : Value} {code : List Int}

theorem fn55 {n : Int} (h : Ab.Loc H0 L H) (hi : L[i]? = some (.src b vc code)) (hQ : ∀ H' (x : Int), Ab.Loc H0 L H' → 0 ≤ x ∧ x < 1073742080 → (1 ≤ n → x < n) → Q (.int .i64 x) H') : Runs Tryz.prog 55 #[pt b 0, .int .i64 n] H Q := by
  refine f55.enter ?_
  unfold f55.w
  refine Wi.lssC (fun h1 => Wi.tru (hQ _ 0 h ⟨by decide, by decide⟩ fun g => by omega)) fun h1 => Wi.fls ?_
  obtain ⟨a, hh, ty, e, hk, ha, hc, hb0, up⟩ := h.src hi
  refine Wi.nilP (Wi.fieldAddr (Wi.get hk rfl (Wi.mulU fun c1 => Wi.addU fun c2 => Wi.nilP (Wi.fieldAddr (Wi.put hk rfl rfl (by simp) fun H1 w1 => ?_)))))
  have k1 : H1.blk b = some ⟨[vc, .int .i64 (a : Int), .int .u64 c2], ty, e, false⟩ := w1.here
  refine Wi.nilP (Wi.fieldAddr (Wi.get k1 rfl (Wi.shrU (by decide) fun c3 => Wi.andU (m := 1073741823) (by decide) fun m hm => Wi.convI (by unfold I64; omega) ?_)))
  refine Wi.nilP (Wi.fieldAddr (Wi.get k1 rfl (Wi.nilP (Wi.fieldAddr (Wi.get k1 rfl ?_)))))
  have h1' : Ab.Loc H0 L H1 := up H1 (by rw [w1.next]; exact Nat.le_refl _) (fun c _ hcb => w1.off c hcb) ⟨a, c2, ty, e, k1, ha⟩
  have hc1 : Has RBytes H1 [vc] code := (h1'.src hi).elim fun _ g => g.elim fun _ g => g.elim fun _ g => g.elim fun _ g => g.2.2.1
  have hsm := hc1.small
  have fin : ∀ H2 (x : Int), Ab.Loc H0 L H2 → 0 ≤ x → x < 1073742080 → f55.j1 Q (.int .i64 n) (.int .i64 x) H2 := fun H2 x h2 g1 g2 => by
    unfold f55.j1
    have e1 := Int.tmod_nonneg n g1
    have e2 : x.tmod n ≤ x := by
      have e : x.tmod n = ((x.toNat % n.toNat : Nat) : Int) := by
        rw [Int.ofNat_tmod, show ((x.toNat : Nat) : Int) = x by omega, show ((n.toNat : Nat) : Int) = n by omega]
      have := Nat.mod_le x.toNat n.toNat
      omega
    have e3 : x.tmod n < n := Int.tmod_lt_of_pos x (by omega)
    exact Wi.remI (by omega) (hQ _ _ h2 ⟨e1, by omega⟩ fun _ => e3)
  refine Wl.lenH hc1 (Wi.lssC (fun hlt => Wi.tru ?_) fun hge => Wi.fls (fin _ _ h1' (by omega) (by omega)))
  have hac : a < code.length := by omega
  refine Wi.nilP (Wi.fieldAddr (Wi.get k1 rfl (Wi.nilP (Wi.fieldAddr (Wi.get k1 rfl ?_)))))
  refine Wl.at1H (r := Rd.u8) rfl hc1 hac fun u hu => ?_
  obtain ⟨_, hu⟩ := hu
  obtain ⟨_, hu, hx1, hx2⟩ := hu
  simp only [List.cons.injEq, and_true] at hu
  subst hu
  refine Wi.convI (by unfold I64; omega) (Wi.add (by unfold I64; omega) (Wi.nilP (Wi.fieldAddr (Wi.get k1 rfl (Wi.add (by unfold I64; omega) (Wi.nilP (Wi.fieldAddr (Wi.put k1 rfl rfl (by simp) fun H2 w2 => ?_))))))))
  have k2 : H2.blk b = some ⟨[vc, .int .i64 ((a : Int) + 1), .int .u64 c2], ty, e, false⟩ := w2.here
  refine fin _ _ (up H2 (by rw [w2.next, w1.next]; exact Nat.le_refl _) (fun c _ hcb => (w2.off c hcb).trans (w1.off c hcb)) ⟨a + 1, c2, ty, e, by rw [k2]; rfl, hac⟩) (by omega) (by omega)

theorem fn54 {vl : Value} {l : List Int} (h : Ab.Loc H0 L H) (hi : L[i]? = some (.src b vc code)) (hl : ∀ H, Ab.Loc H0 L H → Has RS H [vl] l) (h0 : 0 < l.length) (hQ : ∀ H' (x : Int), Ab.Loc H0 L H' → x ∈ l → Q (.int .i64 x) H') : Runs Tryz.prog 54 #[pt b 0, vl] H Q := by
  refine f54.enter (Wl.lenH (hl H h) (Wi.call (fn55 h hi fun H x h hx hn => ?_)))
  have hlt := hn (by omega)
  obtain ⟨j, rfl⟩ : ∃ j : Nat, x = (j : Int) := ⟨x.toNat, by omega⟩
  exact Wl.atIntH (hl H h) (i := j) (by omega) fun _ => hQ _ _ h (List.getElem_mem _)

theorem fn126 {most : Int} (h : Ab.Loc H0 L H) (hi : L[i]? = some (.src b vc code)) (hm : 0 ≤ most ∧ most ≤ 100) (hQ : ∀ H' (x : Int), Ab.Loc H0 L H' → x.natAbs ≤ most.toNat → Q (.int .i64 x) H') : Runs Tryz.prog 126 #[pt b 0, .int .i64 most] H Q := by
  refine f126.enter (Wi.mul (by unfold I64; omega) (Wi.add (by unfold I64; omega) (Wi.call (fn55 h hi fun H x h hx hn => ?_))))
  have := hn (by omega)
  exact Wi.sub (by unfold I64; omega) (hQ _ _ h (by omega))

/-- Rows of so many numbers, bounded. -/
def Small (n m : Nat) (xs : List (List Int)) : Prop := ∀ r ∈ xs, r.length = n ∧ ∀ x ∈ r, x.natAbs ≤ m

theorem fn124 {n : Nat} {most : Int} (h : Ab.Loc H0 L H) (hi : L[i]? = some (.src b vc code)) (hn : n ≤ 5) (hm : 0 ≤ most ∧ most ≤ 100) (hQ : ∀ H' u (m : List (List Int)), Ab.Loc H0 (.data RSS [u] m :: L) H' → m.length = n → Small n most.toNat m → Q u H') :
    Runs Tryz.prog 124 #[pt b 0, .int .i64 (n : Nat), .int .i64 most] H Q := by
  refine f124.enter ?_
  unfold f124.w
  refine Wl.lit0 (ty := 25) RS rfl h fun H u h => ?_
  refine W.for_rule n (fun x st H => ∃ u m, st = (u, .int .i64 (x : Nat), ()) ∧ m.length = x ∧ Small n most.toNat m ∧ Ab.Loc H0 (.grow RS 25 u m :: L) H) ⟨u, [], rfl, rfl, (fun r hr => by cases hr), h⟩ ?_
  rintro x st H J hx ⟨u, m, rfl, hml, hsm, h⟩ hJ
  refine Wi.lssC (fun hlt => Wi.tru ?_) fun hge => Wi.fls ?_
  · have hxn : x < n := by omega
    refine Wl.lit0 (ty := 2) Rd.int rfl h fun H w h => ?_
    refine W.for_rule n (fun y st H => ∃ w r, st = (w, .int .i64 (y : Nat), ()) ∧ r.length = y ∧ (∀ z ∈ r, z.natAbs ≤ most.toNat) ∧ Ab.Loc H0 (.grow Rd.int 2 w r :: .grow RS 25 u m :: L) H) ⟨w, [], rfl, rfl, (fun r hr => by cases hr), h⟩ ?_
    rintro y st H J2 hy ⟨w, r, rfl, hrl, hrs, h⟩ hJ2
    refine Wi.lssC (fun hlt2 => Wi.tru ?_) fun hge2 => Wi.fls ?_
    · have hyn : y < n := by omega
      refine Wi.call (fn126 (i := i + 2) h (by simpa using hi) hm fun H z h hz => ?_)
      refine Wl.litN [0, 1, 1] rfl (by decide) (by simp [I64]) rfl h fun H vl h => Wi.call (fn54 (i := i + 3) h (by simpa using hi) (fun H h => h.rd (cs := [vl])) (by decide) fun H t h ht => ?_)
      have ht : t = 0 ∨ t = 1 := by simp at ht; omega
      have hzt : (z * t).natAbs ≤ most.toNat := by rcases ht with rfl | rfl <;> simp <;> omega
      refine Wi.mul (by unfold I64; omega) (Wl.pushP (r := Rd.int) (x := z * t) (i := 1) rfl rfl rfl (fun _ => ⟨rfl, rfl, by unfold I64; omega⟩) h (by omega) fun H w' h => Wi.add (by unfold I64; omega) (hJ2 _ _ hyn ⟨w', r ++ [z * t], rfl, by simp; omega, fun q hq => ?_, h.tl⟩))
      rcases List.mem_append.1 hq with hq | hq
      · exact hrs q hq
      · rw [List.mem_singleton] at hq; rw [hq]; exact hzt
    · have hyn : y = n := by omega
      have h := h.asData (i := 0) rfl
      have hcu := (h.rd (cs := [w]) (r := RS)).one
      refine Wl.pushO (r := RS) (u := w) (x := r) (i := 1) (j := 0) (L2 := fun v' => .data RS [w] r :: .grow RS 25 v' (m ++ [r]) :: L) (L3 := fun v' => .emp :: .grow RS 25 v' (m ++ [r]) :: L) rfl h (by decide) hcu (by omega) fun H u' h => Wi.add (by unfold I64; omega) (hJ _ _ hxn ⟨u', m ++ [r], rfl, by simp; omega, fun q hq => ?_, h.tl⟩)
      rcases List.mem_append.1 hq with hq | hq
      · exact hsm q hq
      · rw [List.mem_singleton] at hq; rw [hq]; exact ⟨by omega, hrs⟩
  · exact hQ _ _ _ (h.asData (i := 0) rfl) (by omega) hsm

theorem fn84 {n : Nat} (h : Ab.Loc H0 L H) (hi : L[i]? = some (.src b vc code)) (hn : n ≤ 5) (hQ : ∀ H' u (m : List (List Int)), Ab.Loc H0 (.data RSS [u] m :: L) H' → m.length = n → Small n 20 m → Q u H') :
    Runs Tryz.prog 84 #[pt b 0, .int .i64 (n : Nat)] H Q := by
  refine f84.enter ?_
  unfold f84.w
  refine Wi.call (fn124 h hi hn ⟨by decide, by decide⟩ fun H u m h hml hsm => ?_)
  obtain ⟨us, hus, h⟩ := h.heads (i := 0) rfl rfl
  refine W.for_rule n (fun x st H => ∃ m, st = (.int .i64 (x : Nat), ()) ∧ m.length = n ∧ (∀ a (ha : a < m.length), m[a].length = n ∧ ∀ z ∈ m[a], z.natAbs ≤ 3 ∨ a < x ∧ z.natAbs ≤ 20) ∧ Ab.Loc H0 (.rows RS u us m :: L) H) ⟨m, rfl, hml, fun a ha => ⟨(hsm _ (List.getElem_mem ha)).1, fun z hz => .inl ((hsm _ (List.getElem_mem ha)).2 z hz)⟩, h⟩ ?_
  rintro x st H J hx ⟨m, rfl, hml, hb, h⟩ hJ
  refine Wi.lssC (fun hlt => Wi.tru ?_) fun hge => Wi.fls ?_
  · have hxn : x < n := by omega
    have hxm : x < m.length := by omega
    obtain ⟨hl, hz⟩ := hb x hxm
    have hz3 : ∀ z ∈ m[x], z.natAbs ≤ 3 := fun z hz' => (hz z hz').elim id fun g => absurd g.1 (by omega)
    refine Wl.atRow rfl h hxm fun w hw _ => ?_
    refine Wl.rowSet h (j := 0) rfl hw hxm (by omega) (by unfold I64; omega) fun H h => ?_
    have h : Ab.Loc H0 (.rows RS u us (m.set x (m[x].set x 0)) :: L) H := h
    generalize hm1 : m.set x (m[x].set x 0) = m1 at h
    have hx1 : x < m1.length := by rw [← hm1, List.length_set]; exact hxm
    have e1 : m1[x] = m[x].set x 0 := by simp [← hm1]
    have hz1 : ∀ z ∈ m1[x], z.natAbs ≤ 3 := fun z hz' => by
      rw [e1] at hz'
      rcases List.mem_or_eq_of_mem_set hz' with g | g
      · exact hz3 z g
      · rw [g]; decide
    have hl1 : m1[x].length = n := by rw [e1, List.length_set]; exact hl
    refine W.for_rule n (fun y st H => ∃ sum : Int, st = (.int .i64 sum, .int .i64 (y : Nat), ()) ∧ (1 ≤ sum ∧ sum ≤ 1 + 3 * y) ∧ Ab.Loc H0 (.rows RS u us m1 :: L) H) ⟨1, rfl, ⟨by decide, by decide⟩, h⟩ ?_
    rintro y st H J2 hy ⟨sum, rfl, hs, h⟩ hJ2
    have hr := h.row rfl (j := 0) rfl hw hx1
    refine Wi.lssC (fun hlt2 => Wi.tru ?_) fun hge2 => Wi.fls ?_
    · have hyn : y < n := by omega
      have hyl : y < m1[x].length := by omega
      have hzy := hz1 _ (List.getElem_mem hyl)
      refine Wl.atIntH hr hyl fun _ => Wl.atIntH hr hyl fun _ => Wi.neg (by unfold I64; omega) (Wi.max2 (c := ((m1[x][y]).natAbs : Int)) (by split <;> omega) (Wi.add (by unfold I64; omega) (Wi.add (by unfold I64; omega) (hJ2 _ _ hyn ⟨_, rfl, ⟨by omega, by omega⟩, h⟩))))
    · refine Wi.call (fn55 (i := i + 1) h (by simpa using hi) fun H z h hzz hz3 => ?_)
      have := hz3 (by decide)
      refine Wi.add (by unfold I64; omega) (Wl.rowSet h (j := 0) rfl hw hx1 (by omega) (by unfold I64; omega) fun H h => Wi.add (by unfold I64; omega) (hJ _ _ hxn ⟨m1.set x (m1[x].set x (sum + z)), rfl, by rw [List.length_set, ← hm1, List.length_set]; exact hml, fun a ha => ?_, h⟩))
      by_cases e : a = x
      · subst e
        simp only [List.getElem_set_self, List.length_set]
        refine ⟨hl1, fun q hq => ?_⟩
        rcases List.mem_or_eq_of_mem_set hq with g | g
        · exact .inl (hz1 q g)
        · exact .inr ⟨by omega, by omega⟩
      · have ha' : a < m.length := by rw [List.length_set, ← hm1, List.length_set] at ha; exact ha
        have : (m1.set x (m1[x].set x (sum + z)))[a] = m[a] := by
          rw [List.getElem_set_ne (fun g => e g.symm)]
          simp only [← hm1]
          rw [List.getElem_set_ne (fun g => e g.symm)]
        rw [this]
        obtain ⟨g1, g2⟩ := hb a ha'
        exact ⟨g1, fun q hq => (g2 q hq).imp id fun g => ⟨by omega, g.2⟩⟩
  · have h := h.unrows (i := 0) rfl
    refine hQ _ _ _ h hml fun r hr => ?_
    obtain ⟨a, ha, rfl⟩ := List.mem_iff_getElem.1 hr
    obtain ⟨g1, g2⟩ := hb a ha
    exact ⟨g1, fun q hq => (g2 q hq).elim (fun g => by omega) fun g => g.2⟩

end

theorem fn45 {H0 H : Heap} {L : List (Atom H0.next)} {Q : Post} {vc : Value} {code : List Int} (hc0 : Has RBytes H0 [vc] code) (h : Ab.Loc H0 L H) (hQ : ∀ H' b, Ab.Loc H0 (.src b vc code :: L) H' → Q (pt b 0) H') : Runs Tryz.prog 45 #[vc] H Q := by
  have hc := hc0.le h.le
  have hsm := hc.small
  refine f45.enter ?_
  unfold f45.w
  refine Wl.lenH hc (Wi.convU fun c1 => Wi.addU fun c2 => Wi.build (cells := [vc, .int .i64 0, .int .u64 c2]) (by have e : cellsA (.int .u64 c2) = some [.int .u64 c2] := rfl; simp [fillA, hc.one, e]) ?_)
  refine Wl.box h fun H b h => ?_
  have h : Ab.Loc H0 (.src b vc code :: L) H := h.as (i := 0) rfl fun bs hb => by
    obtain ⟨h1, h2, ty, e, h3⟩ := hb
    obtain ⟨bs2, hr2⟩ := hc0
    exact ⟨bs, ⟨h1, h2, ⟨0, c2, ty, e, h3, Nat.zero_le _⟩, bs2, Rd.le _ hr2 h.le, fun c hc => Rd.low _ hr2 c hc⟩, fun c hc => hc⟩
  refine W.for_rule code.length (fun x st H => st = (.int .i64 (x : Nat), ()) ∧ Ab.Loc H0 (.src b vc code :: L) H) ⟨rfl, h⟩ ?_
  rintro x st H J hx ⟨rfl, h⟩ hJ
  obtain ⟨a, hh, ty, e, hk, ha, hcH, hb0, up⟩ := h.src (i := 0) rfl
  refine Wl.lenH hcH (Wi.lssC (fun hlt => ?_) fun hge => ?_)
  · simp only [gw]
    generalize (4096 : Int) = top
    refine Wi.lssC (fun h4 => ?_) fun h4 => ?_
    · simp only [gw]
      have hxc : x < code.length := by omega
      refine Wi.nilP (Wi.fieldAddr (Wi.get hk rfl (Wi.mulU fun c3 => Wl.at1H (r := Rd.u8) rfl hcH hxc fun u hu => ?_)))
      obtain ⟨_, hu⟩ := hu
      obtain ⟨_, hu, _, _⟩ := hu
      simp only [List.cons.injEq, and_true] at hu
      subst hu
      refine Wi.convU fun c4 => Wi.addU fun c5 => Wi.addU fun c6 => Wi.nilP (Wi.fieldAddr (Wi.put hk rfl rfl (by simp) fun H1 w1 => Wi.add (by unfold I64; omega) (hJ _ _ hxc ⟨rfl, ?_⟩)))
      exact up H1 (by rw [w1.next]; exact Nat.le_refl _) (fun c _ hcb => w1.off c hcb) ⟨a, c6, ty, e, w1.here, ha⟩
    · simp only [gw]
      exact hQ _ _ h
  · simp only [gw]
    exact hQ _ _ h

end Go.Proofs.YthfcodelpebjcaaGreat
/-! Draws: problems. No condition. -/
namespace Go.Proofs.YthfcodelpebjcaaGreat
open Go.Ab

/- loop.example/g01343/spec.l01Copy -/
def f147.l1 (Q : Post) (v1 : Value) (v8 : Value) (v2 : Value) (I1 : St [4] → Heap → Prop) (i_4 : Value) (H : Heap) : Prop :=
  W.fieldAddr 0 v1 H fun v9 H =>
  W.get v9 H fun v10 H =>
  W.len v10 H fun v11 H =>
  W.bin .lss i_4 v11 H fun v12 H =>
  W.cond v12 H
  (fun H => W.fieldAddr 0 v8 H fun v13 H =>
   W.get v13 H fun v14 H =>
   W.fieldAddr 0 v1 H fun v15 H =>
   W.get v15 H fun v16 H =>
   W.indexAddr 1 v16 i_4 H fun v17 H =>
   W.get v17 H fun v18 H =>
   W.callQ Tryz.prog (.func (.func 89) #[] #[]) #[v18] H fun v19 H =>
   W.lit 1 [(.slice none 0 0)] 25 [(0, 1, v19)] H fun v20 H =>
   W.append 1 25 v14 v20 H fun v21 H =>
   W.fieldAddr 0 v8 H fun v22 H =>
   W.put v22 v21 H fun _ H =>
   W.bin .add i_4 (.int .i64 1) H fun v23 H =>
   I1 (v23, ()) H)
  (fun H => W.getN 2 v8 H fun v24 H =>
   W.putN 2 v2 v24 H fun _ H =>
   W.getN 2 v2 H fun v25 H => Q v25 H)
def f147.w (Q : Post) (p_0 : Value) (H : Heap) : Prop :=
  W.box p_0 27 H fun v1 H =>
  W.new [(.slice none 0 0), (.slice none 0 0)] 27 H fun v2 H =>
  W.lit 0 [(.slice none 0 0)] 25 [] H fun v3 H =>
  W.fieldAddr 1 v1 H fun v4 H =>
  W.get v4 H fun v5 H =>
  W.call Tryz.prog (.func (.func 89) #[] #[]) #[v5] H fun v6 H =>
  W.build [(.slice none 0 0), (.slice none 0 0)] [(0, 1, v3), (1, 1, v6)] H fun v7 H =>
  W.new [(.slice none 0 0), (.slice none 0 0)] 27 H fun v8 H =>
  W.putN 2 v8 v7 H fun _ H =>
  W.loop (S := St [4]) (fun I1 s H => f147.l1 Q v1 v8 v2 I1 s.1 H) ((.int .i64 0), ()) H
theorem f147.enter {Q : Post} {p_0 : Value} {H : Heap} (h : f147.w Q p_0 H) : Runs Tryz.prog 147 #[p_0] H Q :=
  fn_enter (ann := [(3, [4])]) (by kernel_rfl) Tryz.func147 rfl (by kernel_rfl) h (by kernel_rfl)

/- loop.example/g01343/spec.l01DrawOf -/
def f90.l1 (Q : Post) (n_1 : Value) (v7 : Value) (s_0 : Value) (v13 : Value) (v1 : Value) (I1 : St [10] → Heap → Prop) (i_10 : Value) (H : Heap) : Prop :=
  W.bin .lss i_10 n_1 H fun v14 H =>
  W.cond v14 H
  (fun H => W.fieldAddr 1 v7 H fun v15 H =>
   W.get v15 H fun v16 H =>
   W.call Tryz.prog (.func (.func 126) #[] #[]) #[s_0, v13] H fun v17 H =>
   W.chk (fun H k => W.get v15 H k) v16 H (W.lit 1 [(.int .i64 0)] 2 [(0, 1, v17)] H fun v18 H =>
   W.append 1 2 v16 v18 H fun v19 H =>
   W.fieldAddr 1 v7 H fun v20 H =>
   W.put v20 v19 H fun _ H =>
   W.bin .add i_10 (.int .i64 1) H fun v21 H =>
   I1 (v21, ()) H))
  (fun H => W.getN 2 v7 H fun v22 H =>
   W.putN 2 v1 v22 H fun _ H =>
   W.getN 2 v1 H fun v23 H => Q v23 H)
def f90.j1 (Q : Post) (s_0 : Value) (n_1 : Value) (v7 : Value) (v1 : Value) (H : Heap) : Prop :=
  W.lit 5 [(.int .i64 0)] 2 [(0, 1, (.int .i64 1)), (1, 1, (.int .i64 2)), (2, 1, (.int .i64 5)), (3, 1, (.int .i64 20)), (4, 1, (.int .i64 100))] H fun v12 H =>
  W.call Tryz.prog (.func (.func 54) #[] #[]) #[s_0, v12] H fun v13 H =>
  W.loop (S := St [10]) (fun I1 s H => f90.l1 Q n_1 v7 s_0 v13 v1 I1 s.1 H) ((.int .i64 0), ()) H
def f90.l3 (Q : Post) (i_6 : Value) (v7 : Value) (v29 : Value) (I2 : St [6] → Heap → Prop) (I3 : St [8] → Heap → Prop) (k_8 : Value) (H : Heap) : Prop :=
  W.bin .lss k_8 i_6 H fun v30 H =>
  W.cond v30 H
  (fun H => W.fieldAddr 0 v7 H fun v31 H =>
   W.get v31 H fun v32 H =>
   W.indexAddr 1 v32 k_8 H fun v33 H =>
   W.get v33 H fun v34 H =>
   W.indexAddr 1 v34 i_6 H fun v35 H =>
   W.get v35 H fun v36 H =>
   W.indexAddr 1 v29 k_8 H fun v37 H =>
   W.put v37 v36 H fun _ H =>
   W.bin .add k_8 (.int .i64 1) H fun v38 H =>
   I3 (v38, ()) H)
  (fun H => W.bin .add i_6 (.int .i64 1) H fun v39 H =>
   I2 (v39, ()) H)
def f90.j2 (Q : Post) (s_0 : Value) (n_1 : Value) (v7 : Value) (v1 : Value) (H : Heap) : Prop :=
  f90.j1 Q s_0 n_1 v7 v1 H
def f90.l2 (Q : Post) (n_1 : Value) (v7 : Value) (s_0 : Value) (v1 : Value) (I2 : St [6] → Heap → Prop) (i_6 : Value) (H : Heap) : Prop :=
  W.bin .lss i_6 n_1 H fun v25 H =>
  W.cond v25 H
  (fun H => W.fieldAddr 0 v7 H fun v26 H =>
   W.get v26 H fun v27 H =>
   W.indexAddr 1 v27 i_6 H fun v28 H =>
   W.get v28 H fun v29 H =>
   W.loop (S := St [8]) (fun I3 s H => f90.l3 Q i_6 v7 v29 I2 I3 s.1 H) ((.int .i64 0), ()) H)
  (fun H => f90.j2 Q s_0 n_1 v7 v1 H)
def f90.w (Q : Post) (s_0 : Value) (n_1 : Value) (H : Heap) : Prop :=
  W.new [(.slice none 0 0), (.slice none 0 0)] 27 H fun v1 H =>
  W.lit 5 [(.int .i64 0)] 2 [(0, 1, (.int .i64 1)), (1, 1, (.int .i64 2)), (2, 1, (.int .i64 3)), (3, 1, (.int .i64 9)), (4, 1, (.int .i64 20))] H fun v2 H =>
  W.call Tryz.prog (.func (.func 54) #[] #[]) #[s_0, v2] H fun v3 H =>
  W.call Tryz.prog (.func (.func 124) #[] #[]) #[s_0, n_1, v3] H fun v4 H =>
  W.lit 0 [(.int .i64 0)] 2 [] H fun v5 H =>
  W.build [(.slice none 0 0), (.slice none 0 0)] [(0, 1, v4), (1, 1, v5)] H fun v6 H =>
  W.new [(.slice none 0 0), (.slice none 0 0)] 27 H fun v7 H =>
  W.putN 2 v7 v6 H fun _ H =>
  W.call Tryz.prog (.func (.func 55) #[] #[]) #[s_0, (.int .i64 4)] H fun v8 H =>
  W.bin .eql v8 (.int .i64 0) H fun v9 H =>
  W.cond v9 H
  (fun H => W.call Tryz.prog (.func (.func 84) #[] #[]) #[s_0, n_1] H fun v10 H =>
   W.fieldAddr 0 v7 H fun v11 H =>
   W.put v11 v10 H fun _ H =>
   f90.j1 Q s_0 n_1 v7 v1 H)
  (fun H => W.bin .eql v8 (.int .i64 1) H fun v24 H =>
   W.cond v24 H
   (fun H => W.loop (S := St [6]) (fun I2 s H => f90.l2 Q n_1 v7 s_0 v1 I2 s.1 H) ((.int .i64 0), ()) H)
   (fun H => f90.j2 Q s_0 n_1 v7 v1 H))
theorem f90.enter {Q : Post} {s_0 : Value} {n_1 : Value} {H : Heap} (h : f90.w Q s_0 n_1 H) : Runs Tryz.prog 90 #[s_0, n_1] H Q :=
  fn_enter (ann := [(16, [10]), (1000018, []), (7, [6]), (11, [8])]) (by kernel_rfl) Tryz.func90 rfl (by kernel_rfl) h (by kernel_rfl)

/- loop.example/g01343/spec.l01Draw -/
def f123.w (Q : Post) (s_0 : Value) (H : Heap) : Prop :=
  W.new [(.slice none 0 0), (.slice none 0 0)] 27 H fun v1 H =>
  W.lit 8 [(.int .i64 0)] 2 [(0, 1, (.int .i64 1)), (1, 1, (.int .i64 2)), (2, 1, (.int .i64 2)), (3, 1, (.int .i64 3)), (4, 1, (.int .i64 3)), (5, 1, (.int .i64 3)), (6, 1, (.int .i64 4)), (7, 1, (.int .i64 5))] H fun v2 H =>
  W.call Tryz.prog (.func (.func 54) #[] #[]) #[s_0, v2] H fun v3 H =>
  W.call Tryz.prog (.func (.func 90) #[] #[]) #[s_0, v3] H fun v4 H =>
  W.putN 2 v1 v4 H fun _ H =>
  W.getN 2 v1 H fun v5 H => Q v5 H
theorem f123.enter {Q : Post} {s_0 : Value} {H : Heap} (h : f123.w Q s_0 H) : Runs Tryz.prog 123 #[s_0] H Q :=
  fn_enter (ann := []) (by kernel_rfl) Tryz.func123 rfl (by kernel_rfl) h (by kernel_rfl)

/- loop.example/g01343/spec.l01Bad -/
def f122.w (Q : Post) (s_0 : Value) (p_1 : Value) (H : Heap) : Prop :=
  W.box p_1 27 H fun v1 H =>
  W.new [(.slice none 0 0), (.slice none 0 0)] 27 H fun v2 H =>
  W.call Tryz.prog (.func (.func 55) #[] #[]) #[s_0, (.int .i64 50)] H fun v3 H =>
  W.bin .eql v3 (.int .i64 0) H fun v4 H =>
  W.cond v4 H
  (fun H => W.build [(.slice none 0 0), (.slice none 0 0)] [] H fun v5 H =>
   W.putN 2 v2 v5 H fun _ H =>
   W.getN 2 v2 H fun v6 H => Q v6 H)
  (fun H => W.bin .eql v3 (.int .i64 1) H fun v7 H =>
   W.cond v7 H
   (fun H => W.getN 2 v1 H fun v8 H =>
    W.call Tryz.prog (.func (.func 147) #[] #[]) #[v8] H fun v9 H =>
    W.new [(.slice none 0 0), (.slice none 0 0)] 27 H fun v10 H =>
    W.putN 2 v10 v9 H fun _ H =>
    W.fieldAddr 0 v10 H fun v11 H =>
    W.get v11 H fun v12 H =>
    W.fieldAddr 0 v10 H fun v13 H =>
    W.get v13 H fun v14 H =>
    W.len v14 H fun v15 H =>
    W.call Tryz.prog (.func (.func 55) #[] #[]) #[s_0, v15] H fun v16 H =>
    W.chk (fun H k => W.get v11 H k) v12 H (W.indexAddr 1 v12 v16 H fun v17 H =>
    W.get v17 H fun v18 H =>
    W.lit 3 [(.int .i64 0)] 2 [(0, 1, (.int .i64 21)), (1, 1, (.int .i64 (-21))), (2, 1, (.int .i64 1099511627776))] H fun v19 H =>
    W.call Tryz.prog (.func (.func 54) #[] #[]) #[s_0, v19] H fun v20 H =>
    W.indexAddr 1 v18 (.int .i64 0) H fun v21 H =>
    W.put v21 v20 H fun _ H =>
    W.getN 2 v10 H fun v22 H =>
    W.putN 2 v2 v22 H fun _ H =>
    W.getN 2 v2 H fun v23 H => Q v23 H))
   (fun H => W.bin .eql v3 (.int .i64 2) H fun v24 H =>
    W.cond v24 H
    (fun H => W.getN 2 v1 H fun v25 H =>
     W.call Tryz.prog (.func (.func 147) #[] #[]) #[v25] H fun v26 H =>
     W.new [(.slice none 0 0), (.slice none 0 0)] 27 H fun v27 H =>
     W.putN 2 v27 v26 H fun _ H =>
     W.fieldAddr 1 v27 H fun v28 H =>
     W.get v28 H fun v29 H =>
     W.lit 2 [(.int .i64 0)] 2 [(0, 1, (.int .i64 101)), (1, 1, (.int .i64 (-101)))] H fun v30 H =>
     W.call Tryz.prog (.func (.func 54) #[] #[]) #[s_0, v30] H fun v31 H =>
     W.chk (fun H k => W.get v28 H k) v29 H (W.indexAddr 1 v29 (.int .i64 0) H fun v32 H =>
     W.put v32 v31 H fun _ H =>
     W.getN 2 v27 H fun v33 H =>
     W.putN 2 v2 v33 H fun _ H =>
     W.getN 2 v2 H fun v34 H => Q v34 H))
    (fun H => W.bin .eql v3 (.int .i64 3) H fun v35 H =>
     W.cond v35 H
     (fun H => W.getN 2 v1 H fun v36 H =>
      W.call Tryz.prog (.func (.func 147) #[] #[]) #[v36] H fun v37 H =>
      W.new [(.slice none 0 0), (.slice none 0 0)] 27 H fun v38 H =>
      W.putN 2 v38 v37 H fun _ H =>
      W.fieldAddr 1 v38 H fun v39 H =>
      W.get v39 H fun v40 H =>
      W.lit 1 [(.int .i64 0)] 2 [(0, 1, (.int .i64 0))] H fun v41 H =>
      W.append 1 2 v40 v41 H fun v42 H =>
      W.fieldAddr 1 v38 H fun v43 H =>
      W.put v43 v42 H fun _ H =>
      W.getN 2 v38 H fun v44 H =>
      W.putN 2 v2 v44 H fun _ H =>
      W.getN 2 v2 H fun v45 H => Q v45 H)
     (fun H => W.getN 2 v1 H fun v46 H =>
      W.putN 2 v2 v46 H fun _ H =>
      W.getN 2 v2 H fun v47 H => Q v47 H))))
theorem f122.enter {Q : Post} {s_0 : Value} {p_1 : Value} {H : Heap} (h : f122.w Q s_0 p_1 H) : Runs Tryz.prog 122 #[s_0, p_1] H Q :=
  fn_enter (ann := [(1000006, []), (1000011, [])]) (by kernel_rfl) Tryz.func122 rfl (by kernel_rfl) h (by kernel_rfl)

/- loop.example/g01343/spec.l01Spoil -/
def f83.w (Q : Post) (s_0 : Value) (H : Heap) : Prop :=
  W.new [(.slice none 0 0), (.slice none 0 0)] 27 H fun v1 H =>
  W.call Tryz.prog (.func (.func 123) #[] #[]) #[s_0] H fun v2 H =>
  W.call Tryz.prog (.func (.func 122) #[] #[]) #[s_0, v2] H fun v3 H =>
  W.putN 2 v1 v3 H fun _ H =>
  W.getN 2 v1 H fun v4 H => Q v4 H
theorem f83.enter {Q : Post} {s_0 : Value} {H : Heap} (h : f83.w Q s_0 H) : Runs Tryz.prog 83 #[s_0] H Q :=
  fn_enter (ann := []) (by kernel_rfl) Tryz.func83 rfl (by kernel_rfl) h (by kernel_rfl)


/-- A problem of a size that is not too large. -/
def SmallP (p : Prob) : Prop := p.1.length ≤ 6 ∧ (∀ r ∈ p.1, r.length ≤ 6) ∧ p.2.length ≤ 6

theorem fnJ147 {H0 : Heap} {Q : Post} {cs : List Value} {p : Prob} (hr : Has RProblem H0 cs p) (hm : okRows p.1) (hq : p.2.length ≤ 1048576) (hQ : ∀ H' w1 w2, Ab.Loc H0 [.grow Rd.int 2 w2 p.2, .data RSS [w1] p.1] H' → Q (.agg #[w1, w2]) H') :
    Runs Tryz.prog 147 #[.agg cs.toArray] H0 Q := by
  obtain ⟨u1, u2, rfl, r1, r2⟩ := hasProb hr
  have := hm.1
  refine f147.enter ?_
  unfold f147.w
  have h := ((Loc.start H0).lent r1).lent r2
  refine Wl.box h fun H b h => Wl.new h fun H b2 h => Wl.lit0 RS rfl h fun H g h => Wi.fieldAddr0 (Wl.get h rfl (Wi.call (fn89 h.rd (by omega) fun H w2 f2 => ?_)))
  have h := h.addG f2
  have c1 := (h.rd (cs := [g])).one
  have c2 := f2.fresh.read.one
  have k2 := f2.fresh.read.cell
  refine Wi.build (cells := [g, w2]) (by simp [fillA, c1, c2]) ?_
  have kall : ∀ (u : Value) (H : Heap), Has RSS H [u] (p.1.take 0) ∨ (∃ i, Has RSS H [u] (p.1.take i)) → [u, w2].all isCell = true := fun u H hu => by
    have k1 : [u].all isCell = true := by
      rcases hu with hu | ⟨i, hu⟩
      · exact hu.cell
      · exact hu.cell
    simp only [List.all_cons, List.all_nil, Bool.and_true] at k1 k2 ⊢
    rw [k1, k2]
    rfl
  refine Wl.new h fun H b3 h => Wl.putA h rfl rfl (kall _ H (.inl h.rd)) fun H h => ?_
  refine W.for_rule p.1.length (fun i s H => ∃ u, s = (.int .i64 (i : Nat), ()) ∧ Ab.Loc H0 [.box b3 [u, w2], .grow Rd.int 2 w2 p.2, .grow RS 25 u (p.1.take i), .box b2 [.slice none 0 0, .slice none 0 0], .box b [u1, u2], .lent RS [u2] p.2, .lent RSS [u1] p.1] H) ⟨_, rfl, h⟩ ?_
  rintro i s H J hi ⟨u, rfl, h⟩ hJ
  refine Wi.fieldAddr0 (Wl.get h rfl (Wl.len h (Wi.lssC (fun hlt => Wi.tru ?_) fun hge => Wi.fls ?_)))
  · have hix : i < p.1.length := by omega
    refine Wi.fieldAddr0 (Wl.get h rfl (Wi.fieldAddr0 (Wl.get h rfl (Wl.at1 rfl h hix fun w hw => Wi.callQ (fn89 hw (by have := hm.2 _ (List.getElem_mem hix); omega) fun H2 u2' f => ⟨f.le, ?_⟩)))))
    refine Wl.pushF rfl h f.fresh f.fresh.read.one (by simp; omega) fun H3 v' h => Wi.fieldAddr0 (Wl.put h (h.rd (cs := [v'])).cell1 (by simp) fun H h => Wi.add (by unfold I64; omega) (hJ _ _ hix ⟨v', rfl, ?_⟩))
    rw [List.take_succ_eq_append_getElem hix]
    exact h
  · have : i = p.1.length := by omega
    subst this
    rw [List.take_length] at h
    have k1 := h.rd (cs := [u])
    refine Wl.getA h rfl (Wl.putA h rfl rfl (kall _ H (.inr ⟨p.1.length, by rw [List.take_length]; exact k1⟩)) fun H h => Wl.getA h rfl (hQ _ _ _ ?_))
    exact ((h.asData (i := 2) rfl).cut 0).first 2

section
variable {H0 H : Heap} {L : List (Atom H0.next)} {Q : Post} {b i : Nat} {vc : Value} {code : List Int}


/-- What is drawn: a problem of the size n. -/
def IsN (n : Nat) (p : Prob) : Prop := p.1.length = n ∧ (∀ r ∈ p.1, r.length = n) ∧ p.2.length = n

theorem IsN.small {n : Nat} {p : Prob} (h : IsN n p) (hn : n ≤ 5) : SmallP p := ⟨by have := h.1; omega, fun r hr => by have := h.2.1 r hr; omega, by have := h.2.2; omega⟩

theorem drawOf_end {n b7 b1 : Nat} {u q : Value} {m : List (List Int)} (h : Ab.Loc H0 (.data RSS [u] m :: .grow Rd.int 2 q [] :: .box b7 [u, q] :: .box b1 [.slice none 0 0, .slice none 0 0] :: L) H) (hi : L[i]? = some (.src b vc code)) (hn : n ≤ 5) (hml : m.length = n) (hsm : Small n 20 m)
    (hQ : ∀ H' u1 u2 p, Ab.Loc H0 (.data RProblem [u1, u2] p :: L) H' → IsN n p → Q (.agg #[u1, u2]) H') : f90.j1 Q (pt b 0) (.int .i64 (n : Nat)) (pt b7 0) (pt b1 0) H := by
  unfold f90.j1
  refine Wl.litN [1, 2, 5, 20, 100] rfl (by decide) (by simp [I64]) rfl h fun H vl h => Wi.call (fn54 (i := i + 5) h (by simpa using hi) (fun H h => h.rd (cs := [vl])) (by decide) fun H t h ht => ?_)
  have ht : 0 ≤ t ∧ t ≤ 100 := by simp at ht; omega
  have h := h.tl
  refine W.for_rule n (fun x st H => ∃ q ql, st = (.int .i64 (x : Nat), ()) ∧ ql.length = x ∧ Ab.Loc H0 (.data RSS [u] m :: .grow Rd.int 2 q ql :: .box b7 [u, q] :: .box b1 [.slice none 0 0, .slice none 0 0] :: L) H) ⟨q, [], rfl, rfl, h⟩ ?_
  rintro x st H J hx ⟨q, ql, rfl, hql, h⟩ hJ
  refine Wi.lssC (fun hlt => Wi.tru ?_) fun hge => Wi.fls ?_
  · have hxn : x < n := by omega
    refine Wi.fieldAddr (Wl.get h rfl (Wi.call (fn126 (i := i + 4) h (by simpa using hi) ht fun H z h hz => ?_)))
    refine Wi.chk (Wl.get h rfl ⟨rfl, rfl⟩) (Wl.pushP (r := Rd.int) (x := z) (i := 1) rfl rfl rfl (fun _ => ⟨rfl, rfl, by unfold I64; omega⟩) h (by omega) fun H q' h => ?_)
    have h : Ab.Loc H0 (.data RSS [u] m :: .grow Rd.int 2 q' (ql ++ [z]) :: .box b7 [u, q] :: .box b1 [.slice none 0 0, .slice none 0 0] :: L) H := h
    have k2 := (h.rd (cs := [q']) (r := RS)).cell1
    refine Wi.fieldAddr (Wl.put (b := b7) (o := 1) (i := 2) h k2 (by simp) fun H h => Wi.add (by unfold I64; omega) (hJ _ _ hxn ⟨q', ql ++ [z], rfl, by simp; omega, h⟩))
  · have k1 := (h.rd (cs := [u]) (r := RSS)).cell1
    have k2 := (h.rd (cs := [q]) (r := RS)).cell1
    have kc : [u, q].all isCell = true := by simp [k1, k2]
    refine Wl.getA (b := b7) h rfl (Wl.putA (b := b1) (i := 3) h rfl rfl kc fun H h => Wl.getA (b := b1) h rfl ?_)
    have h := (h.asData (i := 1) rfl).pair (i := 0) (j := 1) rfl rfl (by decide)
    exact hQ _ _ _ (m, ql) (((h.cut 1).cut 1).cut 1) ⟨hml, fun r hr => (hsm r hr).1, show ql.length = n by omega⟩

theorem fn90 {n : Nat} (h : Ab.Loc H0 L H) (hi : L[i]? = some (.src b vc code)) (hn : n ≤ 5) (hQ : ∀ H' u1 u2 p, Ab.Loc H0 (.data RProblem [u1, u2] p :: L) H' → IsN n p → Q (.agg #[u1, u2]) H') :
    Runs Tryz.prog 90 #[pt b 0, .int .i64 (n : Nat)] H Q := by
  refine f90.enter ?_
  unfold f90.w
  refine Wl.new h fun H b1 h => Wl.litN [1, 2, 3, 9, 20] rfl (by decide) (by simp [I64]) rfl h fun H vl h => Wi.call (fn54 (i := i + 2) h (by simpa using hi) (fun H h => h.rd (cs := [vl])) (by decide) fun H t h ht => ?_)
  have ht : 0 ≤ t ∧ t ≤ 20 := by simp at ht; omega
  have h := h.tl
  refine Wi.call (fn124 (i := i + 1) h (by simpa using hi) hn ⟨ht.1, by omega⟩ fun H u m h hml hsm => ?_)
  have hsm : Small n 20 m := fun r hr => ⟨(hsm r hr).1, fun z hz => by have := (hsm r hr).2 z hz; omega⟩
  refine Wl.lit0 (ty := 2) Rd.int rfl h fun H q h => ?_
  have c1 := (h.rd (cs := [u]) (r := RSS)).one
  have c2 := (h.rd (cs := [q]) (r := RS)).one
  have k1 := (h.rd (cs := [u]) (r := RSS)).cell1
  have k2 := (h.rd (cs := [q]) (r := RS)).cell1
  have kc : [u, q].all isCell = true := by simp [k1, k2]
  refine Wi.build (cells := [u, q]) (by simp [fillA, c1, c2]) (Wl.new h fun H b7 h => Wl.putA h rfl rfl kc fun H h => ?_)
  refine Wi.call (fn55 (i := i + 4) h (by simpa using hi) fun H x h hx hx4 => ?_)
  have go : ∀ H u q m, Ab.Loc H0 (.data RSS [u] m :: .grow Rd.int 2 q [] :: .box b7 [u, q] :: .box b1 [.slice none 0 0, .slice none 0 0] :: L) H → m.length = n → Small n 20 m → f90.j1 Q (pt b 0) (.int .i64 (n : Nat)) (pt b7 0) (pt b1 0) H := fun H u q m h hml hsm => drawOf_end h hi hn hml hsm hQ
  refine Wi.eqlC (fun _ => Wi.tru ?_) fun _ => Wi.fls ?_
  · refine Wi.call (fn84 (i := i + 4) h (by simpa using hi) hn fun H u2 m2 h hml2 hsm2 => ?_)
    have k3 := (h.rd (cs := [u2]) (r := RSS)).cell1
    refine Wi.fieldAddr (Wl.put (b := b7) (o := 0) (i := 1) h k3 (by simp) fun H h => ?_)
    have h : Ab.Loc H0 (.data RSS [u2] m2 :: .box b7 [u2, q] :: .grow Rd.int 2 q [] :: .data RSS [u] m :: .box b1 [.slice none 0 0, .slice none 0 0] :: L) H := h
    exact go _ u2 q m2 (((h.cut 3).front 2 rfl).front 1 rfl) hml2 hsm2
  · have h := (h.front 1 rfl).front 2 rfl
    have h : Ab.Loc H0 (.data RSS [u] m :: .grow Rd.int 2 q [] :: .box b7 [u, q] :: .box b1 [.slice none 0 0, .slice none 0 0] :: L) H := h
    refine Wi.eqlC (fun _ => Wi.tru ?_) fun _ => Wi.fls ?_
    · obtain ⟨us, hus, h⟩ := h.heads (i := 0) rfl rfl
      refine W.for_rule n (fun x st H => ∃ m, st = (.int .i64 (x : Nat), ()) ∧ m.length = n ∧ Small n 20 m ∧ Ab.Loc H0 (.rows RS u us m :: .grow Rd.int 2 q [] :: .box b7 [u, q] :: .box b1 [.slice none 0 0, .slice none 0 0] :: L) H) ⟨m, rfl, hml, hsm, h⟩ ?_
      rintro x st H J hxx ⟨m, rfl, hml, hsm, h⟩ hJ
      refine Wi.lssC (fun hlt => Wi.tru ?_) fun hge => Wi.fls ?_
      · have hxn : x < n := by omega
        refine Wi.fieldAddr (Wl.get (b := b7) (o := 0) h rfl (Wl.atRow rfl h (a := x) (by omega) fun w hw _ => ?_))
        refine W.for_rule x (fun y st H => ∃ m, st = (.int .i64 (y : Nat), ()) ∧ m.length = n ∧ Small n 20 m ∧ Ab.Loc H0 (.rows RS u us m :: .grow Rd.int 2 q [] :: .box b7 [u, q] :: .box b1 [.slice none 0 0, .slice none 0 0] :: L) H) ⟨m, rfl, hml, hsm, h⟩ ?_
        rintro y st H J2 hyy ⟨m, rfl, hml, hsm, h⟩ hJ2
        refine Wi.lssC (fun hlt2 => Wi.tru ?_) fun hge2 => Wi.fls ?_
        · have hyx : y < x := by omega
          have hym : y < m.length := by omega
          have hxm : x < m.length := by omega
          have g1 := hsm _ (List.getElem_mem hym)
          have g2 := hsm _ (List.getElem_mem hxm)
          refine Wi.fieldAddr (Wl.get (b := b7) (o := 0) h rfl (Wl.atRow rfl h (a := y) hym fun w2 _ hr2 => Wl.atIntH hr2 (i := x) (by omega) fun hI => ?_))
          have hz := g1.2 _ (List.getElem_mem (show x < m[y].length by omega))
          refine Wl.rowSet h (j := 0) rfl hw hxm (by omega) hI fun H h => Wi.add (by unfold I64; omega) (hJ2 _ _ hyx ⟨m.set x (m[x].set y m[y][x]), rfl, by rw [List.length_set]; exact hml, fun r hr => ?_, h⟩)
          rcases List.mem_or_eq_of_mem_set hr with g | g
          · exact hsm r g
          · rw [g, List.length_set]
            refine ⟨g2.1, fun q hq => ?_⟩
            rcases List.mem_or_eq_of_mem_set hq with g | g
            · exact g2.2 q g
            · rw [g]; exact hz
        · exact Wi.add (by unfold I64; omega) (hJ _ _ hxn ⟨m, rfl, hml, hsm, h⟩)
      · unfold f90.j2
        exact go _ u q m (h.unrows (i := 0) rfl) hml hsm
    · unfold f90.j2
      exact go _ u q m h hml hsm

theorem fn123 (h : Ab.Loc H0 L H) (hi : L[i]? = some (.src b vc code)) (hQ : ∀ H' u1 u2 p n, Ab.Loc H0 (.data RProblem [u1, u2] p :: L) H' → 1 ≤ n ∧ n ≤ 5 → IsN n p → Q (.agg #[u1, u2]) H') : Runs Tryz.prog 123 #[pt b 0] H Q := by
  refine f123.enter ?_
  unfold f123.w
  refine Wl.new h fun H b1 h => Wl.litN [1, 2, 2, 3, 3, 3, 4, 5] rfl (by decide) (by simp [I64]) rfl h fun H vl h => Wi.call (fn54 (i := i + 2) h (by simpa using hi) (fun H h => h.rd (cs := [vl])) (by decide) fun H t h ht => ?_)
  have ht : 1 ≤ t ∧ t ≤ 5 := by simp at ht; omega
  obtain ⟨n, rfl⟩ : ∃ n : Nat, t = (n : Int) := ⟨t.toNat, by omega⟩
  refine Wi.call (fn90 (i := i + 1) h.tl (by simpa using hi) (by omega) fun H u1 u2 p h hp => ?_)
  have kc := (h.rd (cs := [u1, u2]) (r := RProblem)).cell
  refine Wl.putA (b := b1) (i := 1) h rfl rfl kc fun H h => Wl.getA (b := b1) h rfl ?_
  exact hQ _ u1 u2 p n (h.cut 1) ⟨by omega, by omega⟩ hp

theorem nilP (h : Ab.Loc H0 L H) : Ab.Loc H0 (.data RProblem [.slice none 0 0, .slice none 0 0] ([], []) :: L) H := h.add (fresh_nil2 (.refl _))

theorem fn122 {u1 u2 : Value} {p : Prob} {n : Nat} (h : Ab.Loc H0 (.data RProblem [u1, u2] p :: L) H) (hi : L[i]? = some (.src b vc code)) (hn : 1 ≤ n ∧ n ≤ 5) (hp : IsN n p) (hQ : ∀ H' u1 u2 p, Ab.Loc H0 (.data RProblem [u1, u2] p :: L) H' → SmallP p → Q (.agg #[u1, u2]) H') :
    Runs Tryz.prog 122 #[pt b 0, .agg #[u1, u2]] H Q := by
  obtain ⟨p1, p2, p3⟩ := hp
  have hok : okRows p.1 := ⟨by omega, fun r hr => by have := p2 r hr; omega⟩
  refine f122.enter ?_
  unfold f122.w
  refine Wl.box h fun H bp h => Wl.new h fun H b2 h => Wi.call (fn55 (i := i + 3) h (by simpa using hi) fun H x h hx _ => ?_)
  have h : Ab.Loc H0 (.box b2 [.slice none 0 0, .slice none 0 0] :: .box bp [u1, u2] :: .data RProblem [u1, u2] p :: L) H := h
  refine Wi.eqlC (fun _ => Wi.tru ?_) fun _ => Wi.fls ?_
  · refine Wi.build (cells := [.slice none 0 0, .slice none 0 0]) rfl (Wl.putA (b := b2) (i := 0) h rfl rfl rfl fun H h => Wl.getA (b := b2) h rfl ?_)
    have h : Ab.Loc H0 (.box b2 [.slice none 0 0, .slice none 0 0] :: .box bp [u1, u2] :: .data RProblem [u1, u2] p :: L) H := h
    exact hQ _ _ _ ([], []) (nilP (((h.cut 0).cut 0).cut 0)) ⟨by simp, by simp, by simp⟩
  refine Wi.eqlC (fun _ => Wi.tru ?_) fun _ => Wi.fls ?_
  · refine Wl.getA (b := bp) h rfl (Wi.call (fnJ147 (h.rd (cs := [u1, u2])) hok (by omega) fun H w1 w2 k => ?_))
    have h : Ab.Loc H0 (.grow Rd.int 2 w2 p.2 :: .data RSS [w1] p.1 :: .box b2 [.slice none 0 0, .slice none 0 0] :: .box bp [u1, u2] :: .data RProblem [u1, u2] p :: L) H := h.join (M' := [.grow Rd.int 2 w2 p.2, .data RSS [w1] p.1]) k fun j a hj => by
      match j, hj with
      | 0, hj => simp at hj; subst hj; exact ⟨_, rfl, fun bs h => h⟩
      | 1, hj => simp at hj; subst hj; exact ⟨_, rfl, fun bs h => h⟩
      | j + 2, hj => simp at hj
    have k1 := (h.rd (cs := [w1]) (r := RSS)).cell1
    have k2 := (h.rd (cs := [w2]) (r := RS)).cell1
    have kc : [w1, w2].all isCell = true := by simp [k1, k2]
    refine Wl.new h fun H b3 h => Wl.putA h rfl rfl kc fun H h => Wi.fieldAddr (Wl.get (b := b3) (o := 0) h rfl (Wi.fieldAddr (Wl.get (b := b3) (o := 0) h rfl (Wl.len (v := w1) (xs := p.1) h ?_))))
    refine Wi.call (fn55 (i := i + 6) h (by simpa using hi) fun H y h hy hyn => ?_)
    have hlt := hyn (by omega)
    obtain ⟨y, rfl⟩ : ∃ k : Nat, y = (k : Int) := ⟨y.toNat, by omega⟩
    have hyl : y < p.1.length := by omega
    refine Wi.chk (Wl.get (b := b3) (o := 0) h rfl ⟨rfl, rfl⟩) ?_
    have h : Ab.Loc H0 (.box b3 [w1, w2] :: .grow Rd.int 2 w2 p.2 :: .data RSS [w1] p.1 :: .box b2 [.slice none 0 0, .slice none 0 0] :: .box bp [u1, u2] :: .data RProblem [u1, u2] p :: L) H := h
    obtain ⟨us, hus, h⟩ := h.heads (i := 2) rfl rfl
    refine Wl.atRow rfl h (a := y) hyl fun w hw _ => ?_
    refine Wl.litN [21, -21, 1099511627776] rfl (by decide) (by simp [I64]) rfl h fun H vl h => Wi.call (fn54 (i := i + 7) h (by simpa using hi) (fun H h => h.rd (cs := [vl])) (by decide) fun H t h ht => ?_)
    have ht : I64 t := by simp at ht; unfold I64; omega
    have hr1 := p2 _ (List.getElem_mem hyl)
    refine Wl.rowSet h (j := 3) rfl hw hyl (i := 0) (by omega) ht fun H h => ?_
    have h := h.tl.unrows (i := 2) rfl
    have h : Ab.Loc H0 (.box b3 [w1, w2] :: .grow Rd.int 2 w2 p.2 :: .data RSS [w1] (p.1.set y (p.1[y].set 0 t)) :: .box b2 [.slice none 0 0, .slice none 0 0] :: .box bp [u1, u2] :: .data RProblem [u1, u2] p :: L) H := h
    refine Wl.getA (b := b3) h rfl (Wl.putA (b := b2) (i := 3) h rfl rfl kc fun H h => Wl.getA (b := b2) h rfl ?_)
    have h := (h.asData (i := 1) rfl).pair (i := 2) (j := 1) rfl rfl (by decide)
    have h : Ab.Loc H0 (.box b3 [w1, w2] :: .emp :: .data RProblem [w1, w2] (p.1.set y (p.1[y].set 0 t), p.2) :: .box b2 [w1, w2] :: .box bp [u1, u2] :: .data RProblem [u1, u2] p :: L) H := h
    refine hQ _ _ _ _ (((((h.cut 0).cut 0).cut 1).cut 1).cut 1) ⟨by simp; omega, fun r hr => ?_, by simp; omega⟩
    rcases List.mem_or_eq_of_mem_set hr with g | g
    · have := p2 r g; omega
    · rw [g, List.length_set]; omega
  refine Wi.eqlC (fun _ => Wi.tru ?_) fun _ => Wi.fls ?_
  · refine Wl.getA (b := bp) h rfl (Wi.call (fnJ147 (h.rd (cs := [u1, u2])) hok (by omega) fun H w1 w2 k => ?_))
    have h : Ab.Loc H0 (.grow Rd.int 2 w2 p.2 :: .data RSS [w1] p.1 :: .box b2 [.slice none 0 0, .slice none 0 0] :: .box bp [u1, u2] :: .data RProblem [u1, u2] p :: L) H := h.join (M' := [.grow Rd.int 2 w2 p.2, .data RSS [w1] p.1]) k fun j a hj => by
      match j, hj with
      | 0, hj => simp at hj; subst hj; exact ⟨_, rfl, fun bs h => h⟩
      | 1, hj => simp at hj; subst hj; exact ⟨_, rfl, fun bs h => h⟩
      | j + 2, hj => simp at hj
    have k1 := (h.rd (cs := [w1]) (r := RSS)).cell1
    have k2 := (h.rd (cs := [w2]) (r := RS)).cell1
    have kc : [w1, w2].all isCell = true := by simp [k1, k2]
    have h := h.asData (i := 0) rfl
    refine Wl.new h fun H b3 h => Wl.putA h rfl rfl kc fun H h => Wi.fieldAddr (Wl.get (b := b3) (o := 1) h rfl ?_)
    refine Wl.litN [101, -101] rfl (by decide) (by simp [I64]) rfl h fun H vl h => Wi.call (fn54 (i := i + 7) h (by simpa using hi) (fun H h => h.rd (cs := [vl])) (by decide) fun H t h ht => ?_)
    have ht : I64 t := by simp at ht; unfold I64; omega
    refine Wi.chk (Wl.get (b := b3) (o := 1) h rfl ⟨rfl, rfl⟩) (Wl.setInt (v := w2) (j := 2) h (i := 0) (by omega) ht fun H h => ?_)
    have h : Ab.Loc H0 (.data RS [vl] [101, -101] :: .box b3 [w1, w2] :: .data RS [w2] (p.2.set 0 t) :: .data RSS [w1] p.1 :: .box b2 [.slice none 0 0, .slice none 0 0] :: .box bp [u1, u2] :: .data RProblem [u1, u2] p :: L) H := h
    refine Wl.getA (b := b3) h rfl (Wl.putA (b := b2) (i := 4) h rfl rfl kc fun H h => Wl.getA (b := b2) h rfl ?_)
    have h := h.pair (i := 3) (j := 2) rfl rfl (by decide)
    have h : Ab.Loc H0 (.data RS [vl] [101, -101] :: .box b3 [w1, w2] :: .emp :: .data RProblem [w1, w2] (p.1, p.2.set 0 t) :: .box b2 [w1, w2] :: .box bp [u1, u2] :: .data RProblem [u1, u2] p :: L) H := h
    exact hQ _ _ _ _ ((((((h.cut 0).cut 0).cut 0).cut 1).cut 1).cut 1) ⟨by simp; omega, fun r hr => by have := p2 r hr; omega, by simp; omega⟩
  refine Wi.eqlC (fun _ => Wi.tru ?_) fun _ => Wi.fls ?_
  · refine Wl.getA (b := bp) h rfl (Wi.call (fnJ147 (h.rd (cs := [u1, u2])) hok (by omega) fun H w1 w2 k => ?_))
    have h : Ab.Loc H0 (.grow Rd.int 2 w2 p.2 :: .data RSS [w1] p.1 :: .box b2 [.slice none 0 0, .slice none 0 0] :: .box bp [u1, u2] :: .data RProblem [u1, u2] p :: L) H := h.join (M' := [.grow Rd.int 2 w2 p.2, .data RSS [w1] p.1]) k fun j a hj => by
      match j, hj with
      | 0, hj => simp at hj; subst hj; exact ⟨_, rfl, fun bs h => h⟩
      | 1, hj => simp at hj; subst hj; exact ⟨_, rfl, fun bs h => h⟩
      | j + 2, hj => simp at hj
    have k1 := (h.rd (cs := [w1]) (r := RSS)).cell1
    have k2 := (h.rd (cs := [w2]) (r := RS)).cell1
    have kc : [w1, w2].all isCell = true := by simp [k1, k2]
    refine Wl.new h fun H b3 h => Wl.putA h rfl rfl kc fun H h => Wi.fieldAddr (Wl.get (b := b3) (o := 1) h rfl ?_)
    refine Wl.pushP (r := Rd.int) (x := (0 : Int)) (i := 1) rfl rfl rfl (fun _ => ⟨rfl, rfl, by unfold I64; omega⟩) h (by omega) fun H w2' h => ?_
    have h : Ab.Loc H0 (.box b3 [w1, w2] :: .grow Rd.int 2 w2' (p.2 ++ [0]) :: .data RSS [w1] p.1 :: .box b2 [.slice none 0 0, .slice none 0 0] :: .box bp [u1, u2] :: .data RProblem [u1, u2] p :: L) H := h
    have k3 := (h.rd (cs := [w2']) (r := RS)).cell1
    have kc2 : [w1, w2'].all isCell = true := by simp [k1, k3]
    refine Wi.fieldAddr (Wl.put (b := b3) (o := 1) (i := 0) h k3 (by simp) fun H h => ?_)
    have h : Ab.Loc H0 (.box b3 [w1, w2'] :: .grow Rd.int 2 w2' (p.2 ++ [0]) :: .data RSS [w1] p.1 :: .box b2 [.slice none 0 0, .slice none 0 0] :: .box bp [u1, u2] :: .data RProblem [u1, u2] p :: L) H := h
    refine Wl.getA (b := b3) h rfl (Wl.putA (b := b2) (i := 3) h rfl rfl kc2 fun H h => Wl.getA (b := b2) h rfl ?_)
    have h := (h.asData (i := 1) rfl).pair (i := 2) (j := 1) rfl rfl (by decide)
    have h : Ab.Loc H0 (.box b3 [w1, w2'] :: .emp :: .data RProblem [w1, w2'] (p.1, p.2 ++ [0]) :: .box b2 [w1, w2'] :: .box bp [u1, u2] :: .data RProblem [u1, u2] p :: L) H := h
    exact hQ _ _ _ _ (((((h.cut 0).cut 0).cut 1).cut 1).cut 1) ⟨by simp; omega, fun r hr => by have := p2 r hr; omega, by simp; omega⟩
  · have kc := (h.rd (cs := [u1, u2]) (r := RProblem)).cell
    refine Wl.getA (b := bp) h rfl (Wl.putA (b := b2) (i := 0) h rfl rfl kc fun H h => Wl.getA (b := b2) h rfl ?_)
    have h : Ab.Loc H0 (.box b2 [u1, u2] :: .box bp [u1, u2] :: .data RProblem [u1, u2] p :: L) H := h
    exact hQ _ _ _ _ ((h.cut 0).cut 0) ⟨by omega, fun r hr => by have := p2 r hr; omega, by omega⟩

theorem fn83 (h : Ab.Loc H0 L H) (hi : L[i]? = some (.src b vc code)) (hQ : ∀ H' u1 u2 p, Ab.Loc H0 (.data RProblem [u1, u2] p :: L) H' → SmallP p → Q (.agg #[u1, u2]) H') : Runs Tryz.prog 83 #[pt b 0] H Q := by
  refine f83.enter ?_
  unfold f83.w
  refine Wl.new h fun H b1 h => Wi.call (fn123 (i := i + 1) h (by simpa using hi) fun H u1 u2 p n h hn hp => Wi.call (fn122 (i := i + 1) h (by simpa using hi) hn hp fun H w1 w2 p h hp => ?_))
  have kc := (h.rd (cs := [w1, w2]) (r := RProblem)).cell
  refine Wl.putA (b := b1) (i := 1) h rfl rfl kc fun H h => Wl.getA (b := b1) h rfl ?_
  exact hQ _ w1 w2 p (h.cut 1) hp

end

end Go.Proofs.YthfcodelpebjcaaGreat

/-! Draws: problems with sets and rules. No condition. -/
namespace Go.Proofs.YthfcodelpebjcaaGreat
open Go.Ab

/- loop.example/g01343/spec.MurtyProblem -/
def f34.l2 (Q : Post) (n_0 : Value) (v11 : Value) (v9 : Value) (i_5 : Value) (I1 : St [5] → Heap → Prop) (I2 : St [7] → Heap → Prop) (k_7 : Value) (H : Heap) : Prop :=
  W.bin .lss k_7 n_0 H fun v14 H =>
  W.cond v14 H
  (fun H => W.indexAddr 1 v11 k_7 H fun v15 H =>
   W.put v15 (.int .i64 2) H fun _ H =>
   W.bin .add k_7 (.int .i64 1) H fun v16 H =>
   I2 (v16, ()) H)
  (fun H => W.fieldAddr 0 v9 H fun v17 H =>
   W.get v17 H fun v18 H =>
   W.lit 1 [(.slice none 0 0)] 25 [(0, 1, v11)] H fun v19 H =>
   W.append 1 25 v18 v19 H fun v20 H =>
   W.fieldAddr 0 v9 H fun v21 H =>
   W.put v21 v20 H fun _ H =>
   W.fieldAddr 1 v9 H fun v22 H =>
   W.get v22 H fun v23 H =>
   W.lit 1 [(.int .i64 0)] 2 [(0, 1, (.int .i64 (-1)))] H fun v24 H =>
   W.append 1 2 v23 v24 H fun v25 H =>
   W.fieldAddr 1 v9 H fun v26 H =>
   W.put v26 v25 H fun _ H =>
   W.bin .add i_5 (.int .i64 1) H fun v27 H =>
   I1 (v27, ()) H)
def f34.l1 (Q : Post) (n_0 : Value) (v9 : Value) (v1 : Value) (I1 : St [5] → Heap → Prop) (i_5 : Value) (H : Heap) : Prop :=
  W.bin .lss i_5 n_0 H fun v10 H =>
  W.cond v10 H
  (fun H => W.make [(.int .i64 0)] 2 n_0 n_0 H fun v11 H =>
   W.indexAddr 1 v11 i_5 H fun v12 H =>
   W.put v12 (.int .i64 1) H fun _ H =>
   W.bin .add i_5 (.int .i64 1) H fun v13 H =>
   W.loop (S := St [7]) (fun I2 s H => f34.l2 Q n_0 v11 v9 i_5 I1 I2 s.1 H) (v13, ()) H)
  (fun H => W.getN 2 v9 H fun v28 H =>
   W.putN 2 v1 v28 H fun _ H =>
   W.getN 2 v1 H fun v29 H => Q (.tuple #[v29, (.int .i64 0)]) H)
def f34.w (Q : Post) (n_0 : Value) (H : Heap) : Prop :=
  W.new [(.slice none 0 0), (.slice none 0 0)] 27 H fun v1 H =>
  W.call Tryz.prog (.func (.func 65) #[] #[]) #[n_0, (.int .i64 1), (.int .i64 5)] H fun v2 H =>
  W.un .not v2 H fun v3 H =>
  W.cond v3 H
  (fun H => W.build [(.slice none 0 0), (.slice none 0 0)] [] H fun v4 H =>
   W.putN 2 v1 v4 H fun _ H =>
   W.getN 2 v1 H fun v5 H => Q (.tuple #[v5, (.int .i64 2)]) H)
  (fun H => W.lit 0 [(.slice none 0 0)] 25 [] H fun v6 H =>
   W.lit 0 [(.int .i64 0)] 2 [] H fun v7 H =>
   W.build [(.slice none 0 0), (.slice none 0 0)] [(0, 1, v6), (1, 1, v7)] H fun v8 H =>
   W.new [(.slice none 0 0), (.slice none 0 0)] 27 H fun v9 H =>
   W.putN 2 v9 v8 H fun _ H =>
   W.loop (S := St [5]) (fun I1 s H => f34.l1 Q n_0 v9 v1 I1 s.1 H) ((.int .i64 0), ()) H)
theorem f34.enter {Q : Post} {n_0 : Value} {H : Heap} (h : f34.w Q n_0 H) : Runs Tryz.prog 34 #[n_0] H Q :=
  fn_enter (ann := [(5, [5]), (10, [7])]) (by kernel_rfl) Tryz.func34 rfl (by kernel_rfl) h (by kernel_rfl)

/- loop.example/g01343/spec.l08Draw -/
def f44.j1 (Q : Post) (v3 : Value) (v1 : Value) (H : Heap) : Prop :=
  W.getN 2 v3 H fun v16 H =>
  W.putN 2 v1 v16 H fun _ H =>
  W.getN 2 v1 H fun v17 H => Q v17 H
def f44.l1 (Q : Post) (v11 : Value) (v22 : Value) (s_0 : Value) (v1 : Value) (I1 : St [7] → Heap → Prop) (i_7 : Value) (H : Heap) : Prop :=
  W.bin .lss i_7 v11 H fun v24 H =>
  W.cond v24 H
  (fun H => W.fieldAddr 1 v22 H fun v25 H =>
   W.get v25 H fun v26 H =>
   W.lit 5 [(.int .i64 0)] 2 [(0, 1, (.int .i64 (-1))), (1, 1, (.int .i64 (-1))), (2, 1, (.int .i64 1)), (3, 1, (.int .i64 (-2))), (4, 1, (.int .i64 0))] H fun v27 H =>
   W.call Tryz.prog (.func (.func 54) #[] #[]) #[s_0, v27] H fun v28 H =>
   W.chk (fun H k => W.get v25 H k) v26 H (W.indexAddr 1 v26 i_7 H fun v29 H =>
   W.put v29 v28 H fun _ H =>
   W.bin .add i_7 (.int .i64 1) H fun v30 H =>
   I1 (v30, ()) H))
  (fun H => W.getN 2 v22 H fun v31 H =>
   W.putN 2 v1 v31 H fun _ H =>
   W.getN 2 v1 H fun v32 H => Q v32 H)
def f44.j2 (Q : Post) (v3 : Value) (v1 : Value) (H : Heap) : Prop :=
  f44.j1 Q v3 v1 H
def f44.w (Q : Post) (s_0 : Value) (H : Heap) : Prop :=
  W.new [(.slice none 0 0), (.slice none 0 0)] 27 H fun v1 H =>
  W.call Tryz.prog (.func (.func 83) #[] #[]) #[s_0] H fun v2 H =>
  W.new [(.slice none 0 0), (.slice none 0 0)] 27 H fun v3 H =>
  W.putN 2 v3 v2 H fun _ H =>
  W.getN 2 v3 H fun v4 H =>
  W.call Tryz.prog (.func (.func 46) #[] #[]) #[v4] H fun v5 H =>
  W.un .not v5 H fun v6 H =>
  W.cond v6 H
  (fun H => W.getN 2 v3 H fun v7 H =>
   W.putN 2 v1 v7 H fun _ H =>
   W.getN 2 v1 H fun v8 H => Q v8 H)
  (fun H => W.fieldAddr 1 v3 H fun v9 H =>
   W.get v9 H fun v10 H =>
   W.len v10 H fun v11 H =>
   W.call Tryz.prog (.func (.func 55) #[] #[]) #[s_0, (.int .i64 4)] H fun v12 H =>
   W.bin .eql v12 (.int .i64 0) H fun v13 H =>
   W.cond v13 H
   (fun H => W.call Tryz.prog (.func (.func 84) #[] #[]) #[s_0, v11] H fun v14 H =>
    W.fieldAddr 0 v3 H fun v15 H =>
    W.put v15 v14 H fun _ H =>
    f44.j1 Q v3 v1 H)
   (fun H => W.bin .eql v12 (.int .i64 1) H fun v18 H =>
    W.cond v18 H
    (fun H => W.call Tryz.prog (.func (.func 34) #[] #[]) #[v11] H fun v19 H =>
     W.extract 0 v19 H fun v20 H =>
     W.extract 1 v19 H fun v21 H =>
     W.new [(.slice none 0 0), (.slice none 0 0)] 27 H fun v22 H =>
     W.putN 2 v22 v20 H fun _ H =>
     W.bin .eql v21 (.int .i64 0) H fun v23 H =>
     W.cond v23 H
     (fun H => W.loop (S := St [7]) (fun I1 s H => f44.l1 Q v11 v22 s_0 v1 I1 s.1 H) ((.int .i64 0), ()) H)
     (fun H => f44.j2 Q v3 v1 H))
    (fun H => f44.j2 Q v3 v1 H)))
theorem f44.enter {Q : Post} {s_0 : Value} {H : Heap} (h : f44.w Q s_0 H) : Runs Tryz.prog 44 #[s_0] H Q :=
  fn_enter (ann := [(12, [7]), (1000014, [])]) (by kernel_rfl) Tryz.func44 rfl (by kernel_rfl) h (by kernel_rfl)

/- loop.example/g01343/spec.l08With -/
def f38.w (Q : Post) (code_0 : Value) (H : Heap) : Prop :=
  W.new [(.slice none 0 0), (.slice none 0 0)] 27 H fun v1 H =>
  W.call Tryz.prog (.func (.func 45) #[] #[]) #[code_0] H fun v2 H =>
  W.call Tryz.prog (.func (.func 44) #[] #[]) #[v2] H fun v3 H =>
  W.new [(.slice none 0 0), (.slice none 0 0)] 27 H fun v4 H =>
  W.putN 2 v4 v3 H fun _ H =>
  W.getN 2 v4 H fun v5 H =>
  W.fieldAddr 1 v4 H fun v6 H =>
  W.get v6 H fun v7 H =>
  W.len v7 H fun v8 H =>
  W.min2 v8 (.int .i64 5) H fun v9 H =>
  W.conv .u64 v9 H fun v10 H =>
  W.bin .shl (.int .i64 1) v10 H fun v11 H =>
  W.call Tryz.prog (.func (.func 55) #[] #[]) #[v2, (.int .i64 24)] H fun v12 H =>
  W.chk (fun H k => W.get v6 H k) v7 H (W.chk (fun H k => W.getN 2 v4 H k) v5 H (W.bin .quo v12 (.int .i64 23) H fun v13 H =>
  W.bin .add v11 v13 H fun v14 H =>
  W.call Tryz.prog (.func (.func 55) #[] #[]) #[v2, v14] H fun v15 H =>
  W.chk (fun H k => W.getN 2 v4 H k) v5 H (W.call Tryz.prog (.func (.func 55) #[] #[]) #[v2, (.int .i64 4)] H fun v16 H =>
  W.chk (fun H k => W.getN 2 v4 H k) v5 H (W.call Tryz.prog (.func (.func 55) #[] #[]) #[v2, (.int .i64 24)] H fun v17 H =>
  W.chk (fun H k => W.getN 2 v4 H k) v5 H (W.bin .quo v17 (.int .i64 23) H fun v18 H =>
  W.bin .mul v18 (.int .i64 4) H fun v19 H =>
  W.bin .add v16 v19 H fun v20 H =>
  W.putN 2 v1 v5 H fun _ H =>
  W.getN 2 v1 H fun v21 H => Q (.tuple #[v21, v15, v20]) H)))))
theorem f38.enter {Q : Post} {code_0 : Value} {H : Heap} (h : f38.w Q code_0 H) : Runs Tryz.prog 38 #[code_0] H Q :=
  fn_enter (ann := [(1000003, [])]) (by kernel_rfl) Tryz.func38 rfl (by kernel_rfl) h (by kernel_rfl)

/- loop.example/g01343/spec.DrawSolveByRule -/
def f23.w (Q : Post) (code_0 : Value) (H : Heap) : Prop :=
  W.new [(.slice none 0 0), (.slice none 0 0)] 27 H fun v1 H =>
  W.call Tryz.prog (.func (.func 38) #[] #[]) #[code_0] H fun v2 H =>
  W.extract 0 v2 H fun v3 H =>
  W.extract 1 v2 H fun v4 H =>
  W.extract 2 v2 H fun v5 H =>
  W.new [(.slice none 0 0), (.slice none 0 0)] 27 H fun v6 H =>
  W.putN 2 v6 v3 H fun _ H =>
  W.getN 2 v6 H fun v7 H =>
  W.putN 2 v1 v7 H fun _ H =>
  W.getN 2 v1 H fun v8 H => Q (.tuple #[v8, v5]) H
theorem f23.enter {Q : Post} {code_0 : Value} {H : Heap} (h : f23.w Q code_0 H) : Runs Tryz.prog 23 #[code_0] H Q :=
  fn_enter (ann := []) (by kernel_rfl) Tryz.func23 rfl (by kernel_rfl) h (by kernel_rfl)

/- loop.example/g01343/spec.DrawWorstSigns -/
def f29.w (Q : Post) (code_0 : Value) (H : Heap) : Prop :=
  W.new [(.slice none 0 0), (.slice none 0 0)] 27 H fun v1 H =>
  W.call Tryz.prog (.func (.func 23) #[] #[]) #[code_0] H fun v2 H =>
  W.extract 0 v2 H fun v3 H =>
  W.extract 1 v2 H fun v4 H =>
  W.putN 2 v1 v3 H fun _ H =>
  W.getN 2 v1 H fun v5 H => Q (.tuple #[v5, v4]) H
theorem f29.enter {Q : Post} {code_0 : Value} {H : Heap} (h : f29.w Q code_0 H) : Runs Tryz.prog 29 #[code_0] H Q :=
  fn_enter (ann := []) (by kernel_rfl) Tryz.func29 rfl (by kernel_rfl) h (by kernel_rfl)

/- loop.example/g01343/spec.DrawIsCovered -/
def f6.w (Q : Post) (code_0 : Value) (H : Heap) : Prop :=
  W.new [(.slice none 0 0), (.slice none 0 0)] 27 H fun v1 H =>
  W.call Tryz.prog (.func (.func 38) #[] #[]) #[code_0] H fun v2 H =>
  W.extract 0 v2 H fun v3 H =>
  W.extract 1 v2 H fun v4 H =>
  W.extract 2 v2 H fun v5 H =>
  W.new [(.slice none 0 0), (.slice none 0 0)] 27 H fun v6 H =>
  W.putN 2 v6 v3 H fun _ H =>
  W.getN 2 v6 H fun v7 H =>
  W.putN 2 v1 v7 H fun _ H =>
  W.getN 2 v1 H fun v8 H => Q (.tuple #[v8, v4]) H
theorem f6.enter {Q : Post} {code_0 : Value} {H : Heap} (h : f6.w Q code_0 H) : Runs Tryz.prog 6 #[code_0] H Q :=
  fn_enter (ann := []) (by kernel_rfl) Tryz.func6 rfl (by kernel_rfl) h (by kernel_rfl)

/- loop.example/g01343/spec.DrawCoverList -/
def f9.w (Q : Post) (code_0 : Value) (H : Heap) : Prop :=
  W.new [(.slice none 0 0), (.slice none 0 0)] 27 H fun v1 H =>
  W.call Tryz.prog (.func (.func 45) #[] #[]) #[code_0] H fun v2 H =>
  W.call Tryz.prog (.func (.func 44) #[] #[]) #[v2] H fun v3 H =>
  W.putN 2 v1 v3 H fun _ H =>
  W.getN 2 v1 H fun v4 H => Q v4 H
theorem f9.enter {Q : Post} {code_0 : Value} {H : Heap} (h : f9.w Q code_0 H) : Runs Tryz.prog 9 #[code_0] H Q :=
  fn_enter (ann := []) (by kernel_rfl) Tryz.func9 rfl (by kernel_rfl) h (by kernel_rfl)

/- loop.example/g01343/spec.DrawDegreeAt -/
def f13.w (Q : Post) (code_0 : Value) (H : Heap) : Prop :=
  W.new [(.slice none 0 0), (.slice none 0 0)] 27 H fun v1 H =>
  W.call Tryz.prog (.func (.func 45) #[] #[]) #[code_0] H fun v2 H =>
  W.call Tryz.prog (.func (.func 44) #[] #[]) #[v2] H fun v3 H =>
  W.putN 2 v1 v3 H fun _ H =>
  W.getN 2 v1 H fun v4 H => Q v4 H
theorem f13.enter {Q : Post} {code_0 : Value} {H : Heap} (h : f13.w Q code_0 H) : Runs Tryz.prog 13 #[code_0] H Q :=
  fn_enter (ann := []) (by kernel_rfl) Tryz.func13 rfl (by kernel_rfl) h (by kernel_rfl)

/- loop.example/g01343/spec.DrawMurtyProblem -/
def f32.w (Q : Post) (code_0 : Value) (H : Heap) : Prop :=
  W.call Tryz.prog (.func (.func 45) #[] #[]) #[code_0] H fun v1 H =>
  W.call Tryz.prog (.func (.func 55) #[] #[]) #[v1, (.int .i64 7)] H fun v2 H =>
  Q v2 H
theorem f32.enter {Q : Post} {code_0 : Value} {H : Heap} (h : f32.w Q code_0 H) : Runs Tryz.prog 32 #[code_0] H Q :=
  fn_enter (ann := []) (by kernel_rfl) Tryz.func32 rfl (by kernel_rfl) h (by kernel_rfl)


def muRow (n i : Nat) : List Int := (List.range n).map fun k => if k < i then 0 else if k = i then 1 else 2
def muRowTo (n i k : Nat) : List Int := (List.range n).map fun j => if j < i then 0 else if j = i then 1 else if j < k then 2 else 0
def muP (n : Nat) : Prob := ((List.range n).map (muRow n), List.replicate n (-1))

theorem muP_is (n : Nat) : IsN n (muP n) := ⟨by simp [muP], fun r hr => by
  obtain ⟨i, _, rfl⟩ := List.mem_map.1 hr
  simp [muRow], by simp [muP]⟩

theorem muRow_one {n i : Nat} (hi : i < n) : (List.replicate n (0 : Int)).set i 1 = muRowTo n i (i + 1) := by
  apply List.ext_getElem
  · simp [muRowTo]
  · intro k h1 h2
    rw [List.getElem_set]
    simp only [muRowTo, List.getElem_map, List.getElem_range, List.getElem_replicate]
    by_cases e : i = k
    · subst e; simp
    · rw [if_neg e]
      by_cases g : k < i
      · rw [if_pos g]
      · rw [if_neg g, if_neg (by omega), if_neg (by omega)]

theorem muRow_set {n i k : Nat} (hi : i < k) : (muRowTo n i k).set k 2 = muRowTo n i (k + 1) := by
  apply List.ext_getElem
  · simp [muRowTo]
  · intro j h1 h2
    rw [List.getElem_set]
    simp only [muRowTo, List.getElem_map, List.getElem_range]
    by_cases e : k = j
    · subst e
      rw [if_pos rfl, if_neg (by omega), if_neg (by omega), if_pos (by omega)]
    · rw [if_neg e]
      by_cases g : j < k
      · simp [g, show j < k + 1 by omega]
      · simp [g, show ¬ j < k + 1 by omega]

theorem muRow_all (n i : Nat) : muRowTo n i n = muRow n i := List.map_congr_left fun j hj => by
  have : j < n := by simpa using hj
  by_cases g : j < i
  · rw [if_pos g, if_pos g]
  · rw [if_neg g, if_neg g]
    by_cases e : j = i
    · rw [if_pos e, if_pos e]
    · rw [if_neg e, if_neg e, if_pos this]

theorem fn34 {H0 : Heap} {Q : Post} {n : Int} (hI : I64 n) (h1 : ¬ (1 ≤ n ∧ n ≤ 5) → ∀ H', H0.Le H' → Q (.tuple #[.agg #[.slice none 0 0, .slice none 0 0], .int .i64 2]) H')
    (h2 : ∀ k : Nat, n = (k : Int) → 1 ≤ k ∧ k ≤ 5 → ∀ H' w1 w2, Fresh RProblem H0 [w1, w2] (muP k) H' → Q (.tuple #[.agg #[w1, w2], .int .i64 0]) H') : Runs Tryz.prog 34 #[.int .i64 n] H0 Q := by
  refine f34.enter ?_
  unfold f34.w
  refine Wl.new (Loc.start H0) fun H b1 h => Wi.call (fn65 ?_)
  cases hin : inR 1 5 n with
  | false =>
    simp only [gw]
    refine Wi.build (cells := [.slice none 0 0, .slice none 0 0]) rfl (Wl.putA (b := b1) (i := 0) h rfl rfl rfl fun H h => Wl.getA (b := b1) h rfl ?_)
    exact h1 (fun g => by rw [inR_iff.2 g] at hin; cases hin) _ h.le
  | true =>
  have hr := inR_iff.1 hin
  obtain ⟨n, rfl⟩ : ∃ k : Nat, n = (k : Int) := ⟨n.toNat, by omega⟩
  have h2 := h2 n rfl ⟨by omega, by omega⟩
  simp only [gw]
  refine Wl.lit0 (ty := 25) RS rfl h fun H u h => Wl.lit0 (ty := 2) Rd.int rfl h fun H q h => ?_
  have c1 := (h.rd (cs := [u]) (r := RSS)).one
  have c2 := (h.rd (cs := [q]) (r := RS)).one
  have k1 := (h.rd (cs := [u]) (r := RSS)).cell1
  have k2 := (h.rd (cs := [q]) (r := RS)).cell1
  have kc : [u, q].all isCell = true := by simp [k1, k2]
  refine Wi.build (cells := [u, q]) (by simp [fillA, c1, c2]) (Wl.new h fun H b7 h => Wl.putA h rfl rfl kc fun H h => ?_)
  refine W.for_rule n (fun x st H => ∃ u q, st = (.int .i64 (x : Nat), ()) ∧ Ab.Loc H0 [.box b7 [u, q], .grow Rd.int 2 q (List.replicate x (-1)), .grow RS 25 u ((List.range x).map (muRow n)), .box b1 [.slice none 0 0, .slice none 0 0]] H) ⟨u, q, rfl, h⟩ ?_
  rintro x st H J hx ⟨u, q, rfl, h⟩ hJ
  refine Wi.lssC (fun hlt => Wi.tru ?_) fun hge => Wi.fls ?_
  · have hxn : x < n := by omega
    refine Wl.make (r := Rd.int) (z := 0) (fun _ => ⟨rfl, rfl, by unfold I64; omega⟩) h (by omega) (by decide) fun H w h => ?_
    have h := h.asData (i := 0) rfl
    refine Wl.setInt (v := w) (j := 0) h (i := x) (by simpa using hxn) (by unfold I64; omega) fun H h => ?_
    rw [muRow_one hxn] at h
    have hI : I64 ((x : Int) + 1) := by unfold I64; omega
    refine Wi.add hI ?_
    refine W.for_rule n (fun y st H => st = (.int .i64 ((x + 1 + y : Nat) : Int), ()) ∧ x + 1 + y ≤ n ∧ Ab.Loc H0 [.data RS [w] (muRowTo n x (x + 1 + y)), .box b7 [u, q], .grow Rd.int 2 q (List.replicate x (-1)), .grow RS 25 u ((List.range x).map (muRow n)), .box b1 [.slice none 0 0, .slice none 0 0]] H) ⟨rfl, by omega, h⟩ ?_
    rintro y st H J2 hy ⟨rfl, hyn, h⟩ hJ2
    refine Wi.lssC (fun hlt2 => Wi.tru ?_) fun hge2 => Wi.fls ?_
    · refine Wl.setInt (v := w) (j := 0) h (i := x + 1 + y) (by simp [muRowTo]; omega) (by unfold I64; omega) fun H h => Wi.add (by unfold I64; omega) (hJ2 _ _ (by omega) ⟨by congr 1, by omega, ?_⟩)
      rw [muRow_set (by omega)] at h
      exact h
    · have : x + 1 + y = n := by omega
      rw [this, muRow_all] at h
      have hcu := (h.rd (cs := [w]) (r := RS)).one
      refine Wi.fieldAddr (Wl.get (b := b7) (o := 0) h rfl (Wl.pushO (r := RS) (u := w) (x := muRow n x) (i := 3) (j := 0) rfl h (by decide) hcu (by simp; omega) fun H u' h => ?_))
      have h : Ab.Loc H0 [.emp, .box b7 [u, q], .grow Rd.int 2 q (List.replicate x (-1)), .grow RS 25 u' ((List.range x).map (muRow n) ++ [muRow n x]), .box b1 [.slice none 0 0, .slice none 0 0]] H := h
      have k3 := (h.rd (cs := [u']) (r := RSS)).cell1
      refine Wi.fieldAddr (Wl.put (b := b7) (o := 0) (i := 1) h k3 (by simp) fun H h => Wi.fieldAddr (Wl.get (b := b7) (o := 1) h rfl ?_))
      refine Wl.pushP (r := Rd.int) (x := (-1 : Int)) (i := 2) rfl rfl rfl (fun _ => ⟨rfl, rfl, by unfold I64; omega⟩) h (by simp; omega) fun H q' h => ?_
      have h : Ab.Loc H0 [.emp, .box b7 [u', q], .grow Rd.int 2 q' (List.replicate x (-1) ++ [-1]), .grow RS 25 u' ((List.range x).map (muRow n) ++ [muRow n x]), .box b1 [.slice none 0 0, .slice none 0 0]] H := h
      have k4 := (h.rd (cs := [q']) (r := RS)).cell1
      refine Wi.fieldAddr (Wl.put (b := b7) (o := 1) (i := 1) h k4 (by simp) fun H h => Wi.add hI (hJ _ _ hxn ⟨u', q', rfl, ?_⟩))
      rw [List.replicate_succ', List.range_succ, List.map_append]
      exact h.cut 0
  · have : x = n := by omega
    subst this
    have k1 := (h.rd (cs := [u]) (r := RSS)).cell1
    have k2 := (h.rd (cs := [q]) (r := RS)).cell1
    have kc : [u, q].all isCell = true := by simp [k1, k2]
    refine Wl.getA (b := b7) h rfl (Wl.putA (b := b1) (i := 3) h rfl rfl kc fun H h => Wl.getA (b := b1) h rfl ?_)
    exact h2 _ _ _ (((h.asData (i := 1) rfl).asData (i := 2) rfl).ret2 (i := 2) (j := 1) rfl rfl (by decide))

section
variable {H0 H : Heap} {L : List (Atom H0.next)} {Q : Post} {b i : Nat} {vc : Value} {code : List Int}

theorem fn44 (h : Ab.Loc H0 L H) (hi : L[i]? = some (.src b vc code)) (hQ : ∀ H' u1 u2 p, Ab.Loc H0 (.data RProblem [u1, u2] p :: L) H' → SmallP p → Q (.agg #[u1, u2]) H') : Runs Tryz.prog 44 #[pt b 0] H Q := by
  refine f44.enter ?_
  unfold f44.w
  refine Wl.new h fun H b1 h => Wi.call (fn83 (i := i + 1) h (by simpa using hi) fun H u1 u2 p h hp => ?_)
  have kc := (h.rd (cs := [u1, u2]) (r := RProblem)).cell
  refine Wl.new h fun H b3 h => Wl.putA h rfl rfl kc fun H h => Wl.getA (b := b3) h rfl ?_
  obtain ⟨_, q⟩ := h.rd (cs := [u1, u2]) (r := RProblem)
  refine Wi.call (fn46 q fun H l => ?_)
  have h := h.to l
  have h : Ab.Loc H0 (.box b3 [u1, u2] :: .data RProblem [u1, u2] p :: .box b1 [.slice none 0 0, .slice none 0 0] :: L) H := h
  have out : ∀ H w1 w2 p', Ab.Loc H0 (.box b3 [w1, w2] :: .data RProblem [w1, w2] p' :: .box b1 [.slice none 0 0, .slice none 0 0] :: L) H → SmallP p' → W.getN 2 (pt b3 0) H fun v16 H => W.putN 2 (pt b1 0) v16 H fun _ H => W.getN 2 (pt b1 0) H fun v17 H => Q v17 H := fun H w1 w2 p' h hp' => by
    have kc := (h.rd (cs := [w1, w2]) (r := RProblem)).cell
    refine Wl.getA (b := b3) h rfl (Wl.putA (b := b1) (i := 2) h rfl rfl kc fun H h => Wl.getA (b := b1) h rfl ?_)
    have h : Ab.Loc H0 (.box b3 [w1, w2] :: .data RProblem [w1, w2] p' :: .box b1 [w1, w2] :: L) H := h
    exact hQ _ _ _ _ ((h.cut 0).cut 1) hp'
  cases hpr : isProb p with
  | false =>
    simp only [gw]
    exact out _ _ _ _ h hp
  | true =>
  have hpb := PB.of hpr
  have hn := hpb.n5
  have hql := hpb.ql
  simp only [gw]
  generalize hnn : p.2.length = n at *
  have h := ((h.front 1 rfl).unpair (r := RSS) (s := RS) (c1 := [u1]) (c2 := [u2]) (x := p.1) (y := p.2) rfl)
  have h : Ab.Loc H0 (.data RSS [u1] p.1 :: .data RS [u2] p.2 :: .box b3 [u1, u2] :: .box b1 [.slice none 0 0, .slice none 0 0] :: L) H := h
  refine Wi.fieldAddr (Wl.get (b := b3) (o := 1) h rfl (Wl.len (v := u2) (xs := p.2) h ?_))
  rw [hnn]
  refine Wi.call (fn55 (i := i + 4) h (by simpa using hi) fun H x h hx _ => ?_)
  have back : ∀ H m w, m.length ≤ 6 → (∀ r ∈ m, r.length ≤ 6) → Ab.Loc H0 (.data RSS [w] m :: .data RS [u2] p.2 :: .box b3 [w, u2] :: .box b1 [.slice none 0 0, .slice none 0 0] :: L) H → W.getN 2 (pt b3 0) H fun v16 H => W.putN 2 (pt b1 0) v16 H fun _ H => W.getN 2 (pt b1 0) H fun v17 H => Q v17 H := fun H m w g1 g2 h => by
    have h := h.pair (i := 0) (j := 1) rfl rfl (by decide)
    have h : Ab.Loc H0 (.data RProblem [w, u2] (m, p.2) :: .emp :: .box b3 [w, u2] :: .box b1 [.slice none 0 0, .slice none 0 0] :: L) H := h
    exact out _ _ _ (m, p.2) ((h.cut 1).front 1 rfl) ⟨g1, g2, hp.2.2⟩
  refine Wi.eqlC (fun _ => Wi.tru ?_) fun _ => Wi.fls ?_
  · refine Wi.call (fn84 (i := i + 4) h (by simpa using hi) hn fun H w m h hml hsm => ?_)
    have k1 := (h.rd (cs := [w]) (r := RSS)).cell1
    refine Wi.fieldAddr (Wl.put (b := b3) (o := 0) (i := 3) h k1 (by simp) fun H h => ?_)
    have h : Ab.Loc H0 (.data RSS [w] m :: .data RSS [u1] p.1 :: .data RS [u2] p.2 :: .box b3 [w, u2] :: .box b1 [.slice none 0 0, .slice none 0 0] :: L) H := h
    unfold f44.j1
    exact back _ m w (by omega) (fun r hr => by have := (hsm r hr).1; omega) (h.cut 1)
  refine Wi.eqlC (fun _ => Wi.tru ?_) fun _ => Wi.fls ?_
  · refine Wi.call (fn34 (by unfold I64; omega) (fun _ H l => ?_) fun k hk hk5 H w1 w2 f => ?_)
    · have h := h.to l
      simp only [gw]
      refine Wl.new h fun H b22 h => Wl.putA h rfl rfl rfl fun H h => Wi.eqlC (fun g => absurd g (by decide)) fun _ => Wi.fls ?_
      unfold f44.j2 f44.j1
      have h : Ab.Loc H0 (.box b22 [.slice none 0 0, .slice none 0 0] :: .data RSS [u1] p.1 :: .data RS [u2] p.2 :: .box b3 [u1, u2] :: .box b1 [.slice none 0 0, .slice none 0 0] :: L) H := h
      exact back _ p.1 u1 hp.1 hp.2.1 (h.cut 0)
    · have h := h.add2 (r := RSS) (s := RS) (c1 := [w1]) (c2 := [w2]) rfl f
      obtain rfl : n = k := by omega
      obtain ⟨i1, i2, i3⟩ := muP_is n
      simp only [gw]
      have k1 := (h.rd (cs := [w1]) (r := RSS)).cell1
      have k2 := (h.rd (cs := [w2]) (r := RS)).cell1
      have kc : [w1, w2].all isCell = true := by simp [k1, k2]
      refine Wl.new h fun H b22 h => Wl.putA h rfl rfl kc fun H h => Wi.eqlC (fun _ => Wi.tru ?_) fun g => absurd rfl g
      have h : Ab.Loc H0 (.box b22 [w1, w2] :: .data RSS [w1] (muP n).1 :: .data RS [w2] (muP n).2 :: .data RSS [u1] p.1 :: .data RS [u2] p.2 :: .box b3 [u1, u2] :: .box b1 [.slice none 0 0, .slice none 0 0] :: L) H := h
      refine W.for_rule n (fun x st H => ∃ ql, st = (.int .i64 (x : Nat), ()) ∧ ql.length = n ∧ Ab.Loc H0 (.box b22 [w1, w2] :: .data RSS [w1] (muP n).1 :: .data RS [w2] ql :: .data RSS [u1] p.1 :: .data RS [u2] p.2 :: .box b3 [u1, u2] :: .box b1 [.slice none 0 0, .slice none 0 0] :: L) H) ⟨(muP n).2, rfl, i3, h⟩ ?_
      rintro x st H J hxx ⟨ql, rfl, hql2, h⟩ hJ
      refine Wi.lssC (fun hlt => Wi.tru ?_) fun hge => Wi.fls ?_
      · have hxn : x < n := by omega
        refine Wi.fieldAddr (Wl.get (b := b22) (o := 1) h rfl ?_)
        refine Wl.litN [-1, -1, 1, -2, 0] rfl (by decide) (by simp [I64]) rfl h fun H vl h => Wi.call (fn54 (i := i + 8) h (by simpa using hi) (fun H h => h.rd (cs := [vl])) (by decide) fun H t h ht => ?_)
        have ht : I64 t := by simp at ht; unfold I64; omega
        refine Wi.chk (Wl.get (b := b22) (o := 1) h rfl ⟨rfl, rfl⟩) (Wl.setInt (v := w2) (j := 3) h (i := x) (by omega) ht fun H h => Wi.add (by unfold I64; omega) ?_)
        exact hJ _ _ hxn ⟨ql.set x t, rfl, by rw [List.length_set]; exact hql2, h.cut 0⟩
      · refine Wl.getA (b := b22) h rfl (Wl.putA (b := b1) (i := 6) h rfl rfl kc fun H h => Wl.getA (b := b1) h rfl ?_)
        have h : Ab.Loc H0 (.box b22 [w1, w2] :: .data RSS [w1] (muP n).1 :: .data RS [w2] ql :: .data RSS [u1] p.1 :: .data RS [u2] p.2 :: .box b3 [u1, u2] :: .box b1 [w1, w2] :: L) H := h
        have h := h.pair (i := 1) (j := 2) rfl rfl (by decide)
        have h : Ab.Loc H0 (.box b22 [w1, w2] :: .data RProblem [w1, w2] ((muP n).1, ql) :: .emp :: .data RSS [u1] p.1 :: .data RS [u2] p.2 :: .box b3 [u1, u2] :: .box b1 [w1, w2] :: L) H := h
        exact hQ _ _ _ ((muP n).1, ql) ((((((h.cut 0).cut 1).cut 1).cut 1).cut 1).cut 1) ⟨by show (muP n).1.length ≤ 6; omega, fun r hr => by have := i2 r hr; omega, by show ql.length ≤ 6; omega⟩
  · unfold f44.j2 f44.j1
    exact back _ p.1 u1 hp.1 hp.2.1 h

end

theorem fn38 {H0 : Heap} {Q : Post} {vc : Value} {code : List Int} (hc : Has RBytes H0 [vc] code) (hQ : ∀ H' u1 u2 p (s r : Int), Fresh RProblem H0 [u1, u2] p H' → SmallP p → I64 s ∧ I64 r → Q (.tuple #[.agg #[u1, u2], .int .i64 s, .int .i64 r]) H') : Runs Tryz.prog 38 #[vc] H0 Q := by
  refine f38.enter ?_
  unfold f38.w
  refine Wl.new (Loc.start H0) fun H b1 h => Wi.call (fn45 hc h fun H b h => Wi.call (fn44 (i := 0) h rfl fun H u1 u2 p h hp => ?_))
  have kc := (h.rd (cs := [u1, u2]) (r := RProblem)).cell
  refine Wl.new h fun H b4 h => Wl.putA h rfl rfl kc fun H h => ?_
  have h : Ab.Loc H0 [.box b4 [u1, u2], .data RProblem [u1, u2] p, .src b vc code, .box b1 [.slice none 0 0, .slice none 0 0]] H := h
  have hl : Has RS H [u2] p.2 := by
    obtain ⟨w1, w2, e, r1, r2⟩ := hasProb (h.rd (cs := [u1, u2]) (r := RProblem))
    simp only [List.cons.injEq, and_true] at e
    rw [e.2]
    exact r2
  refine Wl.getA (b := b4) h rfl (Wi.fieldAddr (Wl.get (b := b4) (o := 1) h rfl (Wl.lenH hl (Wi.min2 ?_))))
  have e5 : (if (5 : Int) < (p.2.length : Nat) then (5 : Int) else (p.2.length : Nat)) = ((min p.2.length 5 : Nat) : Int) := by
    split <;> omega
  rw [e5]
  have h32 : 2 ^ (min p.2.length 5) ≤ 32 := Nat.pow_le_pow_right (n := 2) (j := 5) (by decide) (by omega)
  refine Wi.convN (by omega) (Wi.shl1 (by omega) ?_)
  obtain ⟨N, hN⟩ : ∃ N : Nat, N = 2 ^ (min p.2.length 5) := ⟨_, rfl⟩
  rw [← hN] at h32 ⊢
  refine Wi.call (fn55 (i := 2) h rfl fun H x1 h hx1 hx1' => ?_)
  have := hx1' (by decide)
  refine Wi.chk (Wl.get (b := b4) (o := 1) h rfl ⟨rfl, rfl⟩) (Wi.chk (Wl.getA (b := b4) h rfl ⟨rfl, rfl⟩) (Wi.quo (by decide) (by have := quoA (y := 23) (show x1.natAbs ≤ 24 by omega); unfold I64; omega) (Wi.add (by have := quoA (y := 23) (show x1.natAbs ≤ 24 by omega); unfold I64; omega) (Wi.call (fn55 (i := 2) h rfl fun H x2 h hx2 hx2' => ?_)))))
  refine Wi.chk (Wl.getA (b := b4) h rfl ⟨rfl, rfl⟩) (Wi.call (fn55 (i := 2) h rfl fun H x3 h hx3 hx3' => ?_))
  refine Wi.chk (Wl.getA (b := b4) h rfl ⟨rfl, rfl⟩) (Wi.call (fn55 (i := 2) h rfl fun H x4 h hx4 hx4' => ?_))
  have b4' := quoA (x := x4) (y := 23) (A := 24) (by have := hx4' (by decide); omega)
  have b3' := hx3' (by decide)
  refine Wi.chk (Wl.getA (b := b4) h rfl ⟨rfl, rfl⟩) (Wi.quo (by decide) (by unfold I64; omega) (Wi.mul (by unfold I64; omega) (Wi.add (by unfold I64; omega) (Wl.putA (b := b1) (i := 3) h rfl rfl kc fun H h => Wl.getA (b := b1) h rfl ?_))))
  exact hQ _ _ _ p _ _ (h.ret (i := 1) rfl) hp ⟨by unfold I64; omega, by unfold I64; omega⟩



theorem fn23 {H0 : Heap} {Q : Post} {vc : Value} {code : List Int} (hc : Has RBytes H0 [vc] code) (hQ : ∀ H' u1 u2 p (r : Int), Fresh RProblem H0 [u1, u2] p H' → SmallP p → I64 r → Q (.tuple #[.agg #[u1, u2], .int .i64 r]) H') : Runs Tryz.prog 23 #[vc] H0 Q := by
  refine f23.enter (Wl.new (Loc.start H0) fun H b1 h => Wi.call (fn38 (hc.le h.le) fun H u1 u2 p s r f hp hI => ?_))
  have h := h.add f
  have kc := (h.rd (cs := [u1, u2]) (r := RProblem)).cell
  simp only [gw]
  refine Wl.new h fun H b6 h => Wl.putA h rfl rfl kc fun H h => Wl.getA (b := b6) h rfl (Wl.putA (b := b1) (i := 2) h rfl rfl kc fun H h => Wl.getA (b := b1) h rfl ?_)
  exact hQ _ _ _ p _ (h.ret (i := 1) rfl) hp hI.2


end Go.Proofs.YthfcodelpebjcaaGreat

/-! Draws: problems with directions and parameters. No condition. -/
namespace Go.Proofs.YthfcodelpebjcaaGreat
open Go.Ab



section
variable {H0 H : Heap} {L : List (Atom H0.next)} {Q : Post} {b i : Nat} {vc : Value} {code : List Int}




end




end Go.Proofs.YthfcodelpebjcaaGreat

/-! How bytes read on the abstract heap. No condition. -/
namespace Go.Proofs.YthfcodelpebjcaaGreat
open Go.Ab

theorem ReadsT.u8 {P : Program} {t : TypeId} (ht : P.underlying t = some (.int .u8)) : ReadsT P t Rd.u8 := by
  intro X enc w spare held fuel cs x h
  obtain ⟨n, rfl, _, hw⟩ := DataW.trod_int ht h
  refine ⟨[], n, rfl, rfl, ?_⟩
  simp only [Lit.wf, Bool.and_eq_true, decide_eq_true_eq, IntKind.min, IntKind.max, IntKind.signed, IntKind.bits] at hw
  simp at hw
  omega

theorem readsY : ReadsT Tryz.prog 22 RBytes := ReadsT.slice Tryz.underlying22 (by kernel_rfl) (by decide) (ReadsT.u8 Tryz.underlying5)

end Go.Proofs.YthfcodelpebjcaaGreat
