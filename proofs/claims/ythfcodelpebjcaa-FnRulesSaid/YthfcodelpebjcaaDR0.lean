/- Draws: sources, numbers, matrices. No condition. -/
import Derived.Test.YthfcodelpebjcaaA1
import Derived.Test.YthfcodelpebjcaaF1
import Derived.Test.YthfcodelpebjcaaZabSrc
import Derived.Test.YthfcodelpebjcaaZabG8
import Derived.Test.YthfcodelpebjcaaZabG9
namespace Go.Proofs.Ythfcodelpebjcaa
open Go.Ab

/- loop.example/g01343/spec.l01From -/
def f46.l1 (Q : Post) (code_0 : Value) (v5 : Value) (I1 : St [4] → Heap → Prop) (i_4 : Value) (H : Heap) : Prop :=
  W.len code_0 H fun v6 H =>
  W.bin .lss i_4 v6 H fun v7 H =>
  W.guarded v7 true (fun H k => k i_4 H) H fun v8 H =>
  W.guarded v7 true (fun H k => W.bin .lss v8 (.int .i64 4096) H k) H fun v9 H =>
  W.pick v7 v9 (.bool false) H fun v10 H =>
  W.cond v10 H
  (fun H => W.nilCheck v5 H fun v11 H =>
   W.fieldAddr 2 v11 H fun v12 H =>
   W.get v12 H fun v13 H =>
   W.bin .mul v13 (.int .u64 1099511628211) H fun v14 H =>
   W.indexAddr 1 code_0 i_4 H fun v15 H =>
   W.get v15 H fun v16 H =>
   W.conv .u64 v16 H fun v17 H =>
   W.bin .add v14 v17 H fun v18 H =>
   W.bin .add v18 (.int .u64 167) H fun v19 H =>
   W.nilCheck v5 H fun v20 H =>
   W.fieldAddr 2 v20 H fun v21 H =>
   W.put v21 v19 H fun _ H =>
   W.bin .add i_4 (.int .i64 1) H fun v22 H =>
   I1 (v22, ()) H)
  (fun H => Q v5 H)
def f46.w (Q : Post) (code_0 : Value) (H : Heap) : Prop :=
  W.len code_0 H fun v1 H =>
  W.conv .u64 v1 H fun v2 H =>
  W.bin .add (.int .u64 13431) v2 H fun v3 H =>
  W.build [(.slice none 0 0), (.int .i64 0), (.int .u64 0)] [(0, 1, code_0), (2, 1, v3)] H fun v4 H =>
  W.box v4 101 H fun v5 H =>
  W.loop (S := St [4]) (fun I1 s H => f46.l1 Q code_0 v5 I1 s.1 H) ((.int .i64 0), ()) H
theorem f46.enter {Q : Post} {code_0 : Value} {H : Heap} (h : f46.w Q code_0 H) : Runs Try.prog 46 #[code_0] H Q :=
  fn_enter (ann := [(3, [4])]) (by kernel_rfl) Try.func46 rfl (by kernel_rfl) h (by kernel_rfl)

/- loop.example/g01343/spec.l01Next -/
def f53.j1 (Q : Post) (n_1 : Value) (x_5 : Value) (H : Heap) : Prop :=
  W.bin .rem x_5 n_1 H fun v39 H =>
  Q v39 H
def f53.w (Q : Post) (s_0 : Value) (n_1 : Value) (H : Heap) : Prop :=
  W.bin .lss n_1 (.int .i64 1) H fun v1 H =>
  W.cond v1 H
  (fun H => Q (.int .i64 0) H)
  (fun H => W.nilCheck s_0 H fun v2 H =>
   W.fieldAddr 2 v2 H fun v3 H =>
   W.get v3 H fun v4 H =>
   W.bin .mul v4 (.int .u64 6364136223846793005) H fun v5 H =>
   W.bin .add v5 (.int .u64 1442695040888963407) H fun v6 H =>
   W.nilCheck s_0 H fun v7 H =>
   W.fieldAddr 2 v7 H fun v8 H =>
   W.put v8 v6 H fun _ H =>
   W.nilCheck s_0 H fun v9 H =>
   W.fieldAddr 2 v9 H fun v10 H =>
   W.get v10 H fun v11 H =>
   W.bin .shr v11 (.int .u64 31) H fun v12 H =>
   W.bin .and v12 (.int .u64 1073741823) H fun v13 H =>
   W.conv .i64 v13 H fun v14 H =>
   W.nilCheck s_0 H fun v15 H =>
   W.fieldAddr 1 v15 H fun v16 H =>
   W.get v16 H fun v17 H =>
   W.nilCheck s_0 H fun v18 H =>
   W.fieldAddr 0 v18 H fun v19 H =>
   W.get v19 H fun v20 H =>
   W.len v20 H fun v21 H =>
   W.bin .lss v17 v21 H fun v22 H =>
   W.cond v22 H
   (fun H => W.nilCheck s_0 H fun v23 H =>
    W.fieldAddr 0 v23 H fun v24 H =>
    W.get v24 H fun v25 H =>
    W.nilCheck s_0 H fun v26 H =>
    W.fieldAddr 1 v26 H fun v27 H =>
    W.get v27 H fun v28 H =>
    W.indexAddr 1 v25 v28 H fun v29 H =>
    W.get v29 H fun v30 H =>
    W.conv .i64 v30 H fun v31 H =>
    W.bin .add v14 v31 H fun v32 H =>
    W.nilCheck s_0 H fun v33 H =>
    W.fieldAddr 1 v33 H fun v34 H =>
    W.get v34 H fun v35 H =>
    W.bin .add v35 (.int .i64 1) H fun v36 H =>
    W.nilCheck s_0 H fun v37 H =>
    W.fieldAddr 1 v37 H fun v38 H =>
    W.put v38 v36 H fun _ H =>
    f53.j1 Q n_1 v32 H)
   (fun H => f53.j1 Q n_1 v14 H))
theorem f53.enter {Q : Post} {s_0 : Value} {n_1 : Value} {H : Heap} (h : f53.w Q s_0 n_1 H) : Runs Try.prog 53 #[s_0, n_1] H Q :=
  fn_enter (ann := []) (by kernel_rfl) Try.func53 rfl (by kernel_rfl) h (by kernel_rfl)

/- loop.example/g01343/spec.l01Pick -/
def f77.w (Q : Post) (s_0 : Value) (list_1 : Value) (H : Heap) : Prop :=
  W.len list_1 H fun v1 H =>
  W.call Try.prog (.func (.func 53) #[] #[]) #[s_0, v1] H fun v2 H =>
  W.indexAddr 1 list_1 v2 H fun v3 H =>
  W.get v3 H fun v4 H =>
  Q v4 H
theorem f77.enter {Q : Post} {s_0 : Value} {list_1 : Value} {H : Heap} (h : f77.w Q s_0 list_1 H) : Runs Try.prog 77 #[s_0, list_1] H Q :=
  fn_enter (ann := []) (by kernel_rfl) Try.func77 rfl (by kernel_rfl) h (by kernel_rfl)

/- loop.example/g01343/spec.l01DrawPart -/
def f125.w (Q : Post) (s_0 : Value) (most_1 : Value) (H : Heap) : Prop :=
  W.bin .mul (.int .i64 2) most_1 H fun v1 H =>
  W.bin .add v1 (.int .i64 1) H fun v2 H =>
  W.call Try.prog (.func (.func 53) #[] #[]) #[s_0, v2] H fun v3 H =>
  W.bin .sub v3 most_1 H fun v4 H =>
  Q v4 H
theorem f125.enter {Q : Post} {s_0 : Value} {most_1 : Value} {H : Heap} (h : f125.w Q s_0 most_1 H) : Runs Try.prog 125 #[s_0, most_1] H Q :=
  fn_enter (ann := []) (by kernel_rfl) Try.func125 rfl (by kernel_rfl) h (by kernel_rfl)

/- loop.example/g01343/spec.l01DrawM -/
def f121.l2 (Q : Post) (n_1 : Value) (s_0 : Value) (most_2 : Value) (out_7 : Value) (i_8 : Value) (I1 : St [7, 8] → Heap → Prop) (I2 : St [9, 10] → Heap → Prop) (row_9 : Value) (k_10 : Value) (H : Heap) : Prop :=
  W.bin .lss k_10 n_1 H fun v4 H =>
  W.cond v4 H
  (fun H => W.call Try.prog (.func (.func 125) #[] #[]) #[s_0, most_2] H fun v5 H =>
   W.lit 3 [(.int .i64 0)] 2 [(0, 1, (.int .i64 0)), (1, 1, (.int .i64 1)), (2, 1, (.int .i64 1))] H fun v6 H =>
   W.call Try.prog (.func (.func 77) #[] #[]) #[s_0, v6] H fun v7 H =>
   W.bin .mul v5 v7 H fun v8 H =>
   W.lit 1 [(.int .i64 0)] 2 [(0, 1, v8)] H fun v9 H =>
   W.append 1 2 row_9 v9 H fun v10 H =>
   W.bin .add k_10 (.int .i64 1) H fun v11 H =>
   I2 (v10, v11, ()) H)
  (fun H => W.lit 1 [(.slice none 0 0)] 25 [(0, 1, row_9)] H fun v12 H =>
   W.append 1 25 out_7 v12 H fun v13 H =>
   W.bin .add i_8 (.int .i64 1) H fun v14 H =>
   I1 (v13, v14, ()) H)
def f121.l1 (Q : Post) (n_1 : Value) (s_0 : Value) (most_2 : Value) (I1 : St [7, 8] → Heap → Prop) (out_7 : Value) (i_8 : Value) (H : Heap) : Prop :=
  W.bin .lss i_8 n_1 H fun v2 H =>
  W.cond v2 H
  (fun H => W.lit 0 [(.int .i64 0)] 2 [] H fun v3 H =>
   W.loop (S := St [9, 10]) (fun I2 s H => f121.l2 Q n_1 s_0 most_2 out_7 i_8 I1 I2 s.1 s.2.1 H) (v3, (.int .i64 0), ()) H)
  (fun H => Q out_7 H)
def f121.w (Q : Post) (s_0 : Value) (n_1 : Value) (most_2 : Value) (H : Heap) : Prop :=
  W.lit 0 [(.slice none 0 0)] 25 [] H fun v1 H =>
  W.loop (S := St [7, 8]) (fun I1 s H => f121.l1 Q n_1 s_0 most_2 I1 s.1 s.2.1 H) (v1, (.int .i64 0), ()) H
theorem f121.enter {Q : Post} {s_0 : Value} {n_1 : Value} {most_2 : Value} {H : Heap} (h : f121.w Q s_0 n_1 most_2 H) : Runs Try.prog 121 #[s_0, n_1, most_2] H Q :=
  fn_enter (ann := [(3, [7, 8]), (7, [9, 10])]) (by kernel_rfl) Try.func121 rfl (by kernel_rfl) h (by kernel_rfl)

/- loop.example/g01343/spec.l01DrawP -/
def f102.l2 (Q : Post) (n_1 : Value) (v4 : Value) (s_0 : Value) (i_6 : Value) (I1 : St [6] → Heap → Prop) (I2 : St [8, 9] → Heap → Prop) (sum_8 : Value) (k_9 : Value) (H : Heap) : Prop :=
  W.bin .lss k_9 n_1 H fun v6 H =>
  W.cond v6 H
  (fun H => W.indexAddr 1 v4 k_9 H fun v7 H =>
   W.get v7 H fun v8 H =>
   W.indexAddr 1 v4 k_9 H fun v9 H =>
   W.get v9 H fun v10 H =>
   W.un .neg v10 H fun v11 H =>
   W.max2 v8 v11 H fun v12 H =>
   W.bin .add sum_8 v12 H fun v13 H =>
   W.bin .add k_9 (.int .i64 1) H fun v14 H =>
   I2 (v13, v14, ()) H)
  (fun H => W.call Try.prog (.func (.func 53) #[] #[]) #[s_0, (.int .i64 3)] H fun v15 H =>
   W.bin .add sum_8 v15 H fun v16 H =>
   W.indexAddr 1 v4 i_6 H fun v17 H =>
   W.put v17 v16 H fun _ H =>
   W.bin .add i_6 (.int .i64 1) H fun v18 H =>
   I1 (v18, ()) H)
def f102.l1 (Q : Post) (n_1 : Value) (v1 : Value) (s_0 : Value) (I1 : St [6] → Heap → Prop) (i_6 : Value) (H : Heap) : Prop :=
  W.bin .lss i_6 n_1 H fun v2 H =>
  W.cond v2 H
  (fun H => W.indexAddr 1 v1 i_6 H fun v3 H =>
   W.get v3 H fun v4 H =>
   W.indexAddr 1 v4 i_6 H fun v5 H =>
   W.put v5 (.int .i64 0) H fun _ H =>
   W.loop (S := St [8, 9]) (fun I2 s H => f102.l2 Q n_1 v4 s_0 i_6 I1 I2 s.1 s.2.1 H) ((.int .i64 1), (.int .i64 0), ()) H)
  (fun H => Q v1 H)
def f102.w (Q : Post) (s_0 : Value) (n_1 : Value) (H : Heap) : Prop :=
  W.call Try.prog (.func (.func 121) #[] #[]) #[s_0, n_1, (.int .i64 3)] H fun v1 H =>
  W.loop (S := St [6]) (fun I1 s H => f102.l1 Q n_1 v1 s_0 I1 s.1 H) ((.int .i64 0), ()) H
theorem f102.enter {Q : Post} {s_0 : Value} {n_1 : Value} {H : Heap} (h : f102.w Q s_0 n_1 H) : Runs Try.prog 102 #[s_0, n_1] H Q :=
  fn_enter (ann := [(3, [6]), (8, [8, 9])]) (by kernel_rfl) Try.func102 rfl (by kernel_rfl) h (by kernel_rfl)


abbrev RBytes : Rd (List Int) := Rd.slice Rd.u8

section
variable {H0 H : Heap} {L : List (Atom H0.next)} {Q : Post} {b i : Nat} {vc : Value} {code : List Int}

theorem fn53 {n : Int} (h : Ab.Loc H0 L H) (hi : L[i]? = some (.src b vc code)) (hQ : ∀ H' (x : Int), Ab.Loc H0 L H' → 0 ≤ x ∧ x < 1073742080 → (1 ≤ n → x < n) → Q (.int .i64 x) H') : Runs Try.prog 53 #[pt b 0, .int .i64 n] H Q := by
  refine f53.enter ?_
  unfold f53.w
  refine Wi.lssC (fun h1 => Wi.tru (hQ _ 0 h ⟨by decide, by decide⟩ fun g => by omega)) fun h1 => Wi.fls ?_
  obtain ⟨a, hh, ty, e, hk, ha, hc, hb0, up⟩ := h.src hi
  refine Wi.nilP (Wi.fieldAddr (Wi.get hk rfl (Wi.mulU fun c1 => Wi.addU fun c2 => Wi.nilP (Wi.fieldAddr (Wi.put hk rfl rfl (by simp) fun H1 w1 => ?_)))))
  have k1 : H1.blk b = some ⟨[vc, .int .i64 (a : Int), .int .u64 c2], ty, e, false⟩ := w1.here
  refine Wi.nilP (Wi.fieldAddr (Wi.get k1 rfl (Wi.shrU (by decide) fun c3 => Wi.andU (m := 1073741823) (by decide) fun m hm => Wi.convI (by unfold I64; omega) ?_)))
  refine Wi.nilP (Wi.fieldAddr (Wi.get k1 rfl (Wi.nilP (Wi.fieldAddr (Wi.get k1 rfl ?_)))))
  have h1' : Ab.Loc H0 L H1 := up H1 (by rw [w1.next]; exact Nat.le_refl _) (fun c _ hcb => w1.off c hcb) ⟨a, c2, ty, e, k1, ha⟩
  have hc1 : Has RBytes H1 [vc] code := (h1'.src hi).elim fun _ g => g.elim fun _ g => g.elim fun _ g => g.elim fun _ g => g.2.2.1
  have hsm := hc1.small
  have fin : ∀ H2 (x : Int), Ab.Loc H0 L H2 → 0 ≤ x → x < 1073742080 → f53.j1 Q (.int .i64 n) (.int .i64 x) H2 := fun H2 x h2 g1 g2 => by
    unfold f53.j1
    have e1 := Int.tmod_nonneg n g1
    have e2 : x.tmod n ≤ x := by
      have e : x.tmod n = ((x.toNat % n.toNat : Nat) : Int) := by
        rw [Int.ofNat_tmod, show ((x.toNat : Nat) : Int) = x by omega, show ((n.toNat : Nat) : Int) = n by omega]
      have := Nat.mod_le x.toNat n.toNat
      omega
    have e3 : x.tmod n < n := Int.tmod_lt_of_pos x (by omega)
    exact Wi.remI (by omega) (hQ _ _ h2 ⟨e1, by omega⟩ fun _ => e3)
  refine Wl.lenH hc1 (Wi.lssC (fun hlt => Wi.tru ?_) fun hge => Wi.fls (fin _ _ h1' (by omega) (by omega)))
  have hac : a < code.length := by omega
  refine Wi.nilP (Wi.fieldAddr (Wi.get k1 rfl (Wi.nilP (Wi.fieldAddr (Wi.get k1 rfl ?_)))))
  refine Wl.at1H (r := Rd.u8) rfl hc1 hac fun u hu => ?_
  obtain ⟨_, hu⟩ := hu
  obtain ⟨_, hu, hx1, hx2⟩ := hu
  simp only [List.cons.injEq, and_true] at hu
  subst hu
  refine Wi.convI (by unfold I64; omega) (Wi.add (by unfold I64; omega) (Wi.nilP (Wi.fieldAddr (Wi.get k1 rfl (Wi.add (by unfold I64; omega) (Wi.nilP (Wi.fieldAddr (Wi.put k1 rfl rfl (by simp) fun H2 w2 => ?_))))))))
  have k2 : H2.blk b = some ⟨[vc, .int .i64 ((a : Int) + 1), .int .u64 c2], ty, e, false⟩ := w2.here
  refine fin _ _ (up H2 (by rw [w2.next, w1.next]; exact Nat.le_refl _) (fun c _ hcb => (w2.off c hcb).trans (w1.off c hcb)) ⟨a + 1, c2, ty, e, by rw [k2]; rfl, hac⟩) (by omega) (by omega)

theorem fn77 {vl : Value} {l : List Int} (h : Ab.Loc H0 L H) (hi : L[i]? = some (.src b vc code)) (hl : ∀ H, Ab.Loc H0 L H → Has RS H [vl] l) (h0 : 0 < l.length) (hQ : ∀ H' (x : Int), Ab.Loc H0 L H' → x ∈ l → Q (.int .i64 x) H') : Runs Try.prog 77 #[pt b 0, vl] H Q := by
  refine f77.enter (Wl.lenH (hl H h) (Wi.call (fn53 h hi fun H x h hx hn => ?_)))
  have hlt := hn (by omega)
  obtain ⟨j, rfl⟩ : ∃ j : Nat, x = (j : Int) := ⟨x.toNat, by omega⟩
  exact Wl.atIntH (hl H h) (i := j) (by omega) fun _ => hQ _ _ h (List.getElem_mem _)

theorem fn125 {most : Int} (h : Ab.Loc H0 L H) (hi : L[i]? = some (.src b vc code)) (hm : 0 ≤ most ∧ most ≤ 100) (hQ : ∀ H' (x : Int), Ab.Loc H0 L H' → x.natAbs ≤ most.toNat → Q (.int .i64 x) H') : Runs Try.prog 125 #[pt b 0, .int .i64 most] H Q := by
  refine f125.enter (Wi.mul (by unfold I64; omega) (Wi.add (by unfold I64; omega) (Wi.call (fn53 h hi fun H x h hx hn => ?_))))
  have := hn (by omega)
  exact Wi.sub (by unfold I64; omega) (hQ _ _ h (by omega))

/-- Rows of so many numbers, bounded. -/
def Small (n m : Nat) (xs : List (List Int)) : Prop := ∀ r ∈ xs, r.length = n ∧ ∀ x ∈ r, x.natAbs ≤ m

theorem fn121 {n : Nat} {most : Int} (h : Ab.Loc H0 L H) (hi : L[i]? = some (.src b vc code)) (hn : n ≤ 5) (hm : 0 ≤ most ∧ most ≤ 100) (hQ : ∀ H' u (m : List (List Int)), Ab.Loc H0 (.data RSS [u] m :: L) H' → m.length = n → Small n most.toNat m → Q u H') :
    Runs Try.prog 121 #[pt b 0, .int .i64 (n : Nat), .int .i64 most] H Q := by
  refine f121.enter ?_
  unfold f121.w
  refine Wl.lit0 (ty := 25) RS rfl h fun H u h => ?_
  refine W.for_rule n (fun x st H => ∃ u m, st = (u, .int .i64 (x : Nat), ()) ∧ m.length = x ∧ Small n most.toNat m ∧ Ab.Loc H0 (.grow RS 25 u m :: L) H) ⟨u, [], rfl, rfl, (fun r hr => by cases hr), h⟩ ?_
  rintro x st H J hx ⟨u, m, rfl, hml, hsm, h⟩ hJ
  refine Wi.lssC (fun hlt => Wi.tru ?_) fun hge => Wi.fls ?_
  · have hxn : x < n := by omega
    refine Wl.lit0 (ty := 2) Rd.int rfl h fun H w h => ?_
    refine W.for_rule n (fun y st H => ∃ w r, st = (w, .int .i64 (y : Nat), ()) ∧ r.length = y ∧ (∀ z ∈ r, z.natAbs ≤ most.toNat) ∧ Ab.Loc H0 (.grow Rd.int 2 w r :: .grow RS 25 u m :: L) H) ⟨w, [], rfl, rfl, (fun r hr => by cases hr), h⟩ ?_
    rintro y st H J2 hy ⟨w, r, rfl, hrl, hrs, h⟩ hJ2
    refine Wi.lssC (fun hlt2 => Wi.tru ?_) fun hge2 => Wi.fls ?_
    · have hyn : y < n := by omega
      refine Wi.call (fn125 (i := i + 2) h (by simpa using hi) hm fun H z h hz => ?_)
      refine Wl.litN [0, 1, 1] rfl (by decide) (by simp [I64]) rfl h fun H vl h => Wi.call (fn77 (i := i + 3) h (by simpa using hi) (fun H h => h.rd (cs := [vl])) (by decide) fun H t h ht => ?_)
      have ht : t = 0 ∨ t = 1 := by simp at ht; omega
      have hzt : (z * t).natAbs ≤ most.toNat := by rcases ht with rfl | rfl <;> simp <;> omega
      refine Wi.mul (by unfold I64; omega) (Wl.pushP (r := Rd.int) (x := z * t) (i := 1) rfl rfl rfl (fun _ => ⟨rfl, rfl, by unfold I64; omega⟩) h (by omega) fun H w' h => Wi.add (by unfold I64; omega) (hJ2 _ _ hyn ⟨w', r ++ [z * t], rfl, by simp; omega, fun q hq => ?_, h.tl⟩))
      rcases List.mem_append.1 hq with hq | hq
      · exact hrs q hq
      · rw [List.mem_singleton] at hq; rw [hq]; exact hzt
    · have hyn : y = n := by omega
      have h := h.asData (i := 0) rfl
      have hcu := (h.rd (cs := [w]) (r := RS)).one
      refine Wl.pushO (r := RS) (u := w) (x := r) (i := 1) (j := 0) (L2 := fun v' => .data RS [w] r :: .grow RS 25 v' (m ++ [r]) :: L) (L3 := fun v' => .emp :: .grow RS 25 v' (m ++ [r]) :: L) rfl h (by decide) hcu (by omega) fun H u' h => Wi.add (by unfold I64; omega) (hJ _ _ hxn ⟨u', m ++ [r], rfl, by simp; omega, fun q hq => ?_, h.tl⟩)
      rcases List.mem_append.1 hq with hq | hq
      · exact hsm q hq
      · rw [List.mem_singleton] at hq; rw [hq]; exact ⟨by omega, hrs⟩
  · exact hQ _ _ _ (h.asData (i := 0) rfl) (by omega) hsm

theorem fn102 {n : Nat} (h : Ab.Loc H0 L H) (hi : L[i]? = some (.src b vc code)) (hn : n ≤ 5) (hQ : ∀ H' u (m : List (List Int)), Ab.Loc H0 (.data RSS [u] m :: L) H' → m.length = n → Small n 20 m → Q u H') :
    Runs Try.prog 102 #[pt b 0, .int .i64 (n : Nat)] H Q := by
  refine f102.enter ?_
  unfold f102.w
  refine Wi.call (fn121 h hi hn ⟨by decide, by decide⟩ fun H u m h hml hsm => ?_)
  obtain ⟨us, hus, h⟩ := h.heads (i := 0) rfl rfl
  refine W.for_rule n (fun x st H => ∃ m, st = (.int .i64 (x : Nat), ()) ∧ m.length = n ∧ (∀ a (ha : a < m.length), m[a].length = n ∧ ∀ z ∈ m[a], z.natAbs ≤ 3 ∨ a < x ∧ z.natAbs ≤ 20) ∧ Ab.Loc H0 (.rows RS u us m :: L) H) ⟨m, rfl, hml, fun a ha => ⟨(hsm _ (List.getElem_mem ha)).1, fun z hz => .inl ((hsm _ (List.getElem_mem ha)).2 z hz)⟩, h⟩ ?_
  rintro x st H J hx ⟨m, rfl, hml, hb, h⟩ hJ
  refine Wi.lssC (fun hlt => Wi.tru ?_) fun hge => Wi.fls ?_
  · have hxn : x < n := by omega
    have hxm : x < m.length := by omega
    obtain ⟨hl, hz⟩ := hb x hxm
    have hz3 : ∀ z ∈ m[x], z.natAbs ≤ 3 := fun z hz' => (hz z hz').elim id fun g => absurd g.1 (by omega)
    refine Wl.atRow rfl h hxm fun w hw _ => ?_
    refine Wl.rowSet h (j := 0) rfl hw hxm (by omega) (by unfold I64; omega) fun H h => ?_
    have h : Ab.Loc H0 (.rows RS u us (m.set x (m[x].set x 0)) :: L) H := h
    generalize hm1 : m.set x (m[x].set x 0) = m1 at h
    have hx1 : x < m1.length := by rw [← hm1, List.length_set]; exact hxm
    have e1 : m1[x] = m[x].set x 0 := by simp [← hm1]
    have hz1 : ∀ z ∈ m1[x], z.natAbs ≤ 3 := fun z hz' => by
      rw [e1] at hz'
      rcases List.mem_or_eq_of_mem_set hz' with g | g
      · exact hz3 z g
      · rw [g]; decide
    have hl1 : m1[x].length = n := by rw [e1, List.length_set]; exact hl
    refine W.for_rule n (fun y st H => ∃ sum : Int, st = (.int .i64 sum, .int .i64 (y : Nat), ()) ∧ (1 ≤ sum ∧ sum ≤ 1 + 3 * y) ∧ Ab.Loc H0 (.rows RS u us m1 :: L) H) ⟨1, rfl, ⟨by decide, by decide⟩, h⟩ ?_
    rintro y st H J2 hy ⟨sum, rfl, hs, h⟩ hJ2
    have hr := h.row rfl (j := 0) rfl hw hx1
    refine Wi.lssC (fun hlt2 => Wi.tru ?_) fun hge2 => Wi.fls ?_
    · have hyn : y < n := by omega
      have hyl : y < m1[x].length := by omega
      have hzy := hz1 _ (List.getElem_mem hyl)
      refine Wl.atIntH hr hyl fun _ => Wl.atIntH hr hyl fun _ => Wi.neg (by unfold I64; omega) (Wi.max2 (c := ((m1[x][y]).natAbs : Int)) (by split <;> omega) (Wi.add (by unfold I64; omega) (Wi.add (by unfold I64; omega) (hJ2 _ _ hyn ⟨_, rfl, ⟨by omega, by omega⟩, h⟩))))
    · refine Wi.call (fn53 (i := i + 1) h (by simpa using hi) fun H z h hzz hz3 => ?_)
      have := hz3 (by decide)
      refine Wi.add (by unfold I64; omega) (Wl.rowSet h (j := 0) rfl hw hx1 (by omega) (by unfold I64; omega) fun H h => Wi.add (by unfold I64; omega) (hJ _ _ hxn ⟨m1.set x (m1[x].set x (sum + z)), rfl, by rw [List.length_set, ← hm1, List.length_set]; exact hml, fun a ha => ?_, h⟩))
      by_cases e : a = x
      · subst e
        simp only [List.getElem_set_self, List.length_set]
        refine ⟨hl1, fun q hq => ?_⟩
        rcases List.mem_or_eq_of_mem_set hq with g | g
        · exact .inl (hz1 q g)
        · exact .inr ⟨by omega, by omega⟩
      · have ha' : a < m.length := by rw [List.length_set, ← hm1, List.length_set] at ha; exact ha
        have : (m1.set x (m1[x].set x (sum + z)))[a] = m[a] := by
          rw [List.getElem_set_ne (fun g => e g.symm)]
          simp only [← hm1]
          rw [List.getElem_set_ne (fun g => e g.symm)]
        rw [this]
        obtain ⟨g1, g2⟩ := hb a ha'
        exact ⟨g1, fun q hq => (g2 q hq).imp id fun g => ⟨by omega, g.2⟩⟩
  · have h := h.unrows (i := 0) rfl
    refine hQ _ _ _ h hml fun r hr => ?_
    obtain ⟨a, ha, rfl⟩ := List.mem_iff_getElem.1 hr
    obtain ⟨g1, g2⟩ := hb a ha
    exact ⟨g1, fun q hq => (g2 q hq).elim (fun g => by omega) fun g => g.2⟩

end

theorem fn46 {H0 H : Heap} {L : List (Atom H0.next)} {Q : Post} {vc : Value} {code : List Int} (hc0 : Has RBytes H0 [vc] code) (h : Ab.Loc H0 L H) (hQ : ∀ H' b, Ab.Loc H0 (.src b vc code :: L) H' → Q (pt b 0) H') : Runs Try.prog 46 #[vc] H Q := by
  have hc := hc0.le h.le
  have hsm := hc.small
  refine f46.enter ?_
  unfold f46.w
  refine Wl.lenH hc (Wi.convU fun c1 => Wi.addU fun c2 => Wi.build (cells := [vc, .int .i64 0, .int .u64 c2]) (by have e : cellsA (.int .u64 c2) = some [.int .u64 c2] := rfl; simp [fillA, hc.one, e]) ?_)
  refine Wl.box h fun H b h => ?_
  have h : Ab.Loc H0 (.src b vc code :: L) H := h.as (i := 0) rfl fun bs hb => by
    obtain ⟨h1, h2, ty, e, h3⟩ := hb
    obtain ⟨bs2, hr2⟩ := hc0
    exact ⟨bs, ⟨h1, h2, ⟨0, c2, ty, e, h3, Nat.zero_le _⟩, bs2, Rd.le _ hr2 h.le, fun c hc => Rd.low _ hr2 c hc⟩, fun c hc => hc⟩
  refine W.for_rule code.length (fun x st H => st = (.int .i64 (x : Nat), ()) ∧ Ab.Loc H0 (.src b vc code :: L) H) ⟨rfl, h⟩ ?_
  rintro x st H J hx ⟨rfl, h⟩ hJ
  obtain ⟨a, hh, ty, e, hk, ha, hcH, hb0, up⟩ := h.src (i := 0) rfl
  refine Wl.lenH hcH (Wi.lssC (fun hlt => ?_) fun hge => ?_)
  · simp only [gw]
    generalize (4096 : Int) = top
    refine Wi.lssC (fun h4 => ?_) fun h4 => ?_
    · simp only [gw]
      have hxc : x < code.length := by omega
      refine Wi.nilP (Wi.fieldAddr (Wi.get hk rfl (Wi.mulU fun c3 => Wl.at1H (r := Rd.u8) rfl hcH hxc fun u hu => ?_)))
      obtain ⟨_, hu⟩ := hu
      obtain ⟨_, hu, _, _⟩ := hu
      simp only [List.cons.injEq, and_true] at hu
      subst hu
      refine Wi.convU fun c4 => Wi.addU fun c5 => Wi.addU fun c6 => Wi.nilP (Wi.fieldAddr (Wi.put hk rfl rfl (by simp) fun H1 w1 => Wi.add (by unfold I64; omega) (hJ _ _ hxc ⟨rfl, ?_⟩)))
      exact up H1 (by rw [w1.next]; exact Nat.le_refl _) (fun c _ hcb => w1.off c hcb) ⟨a, c6, ty, e, w1.here, ha⟩
    · simp only [gw]
      exact hQ _ _ h
  · simp only [gw]
    exact hQ _ _ h

end Go.Proofs.Ythfcodelpebjcaa
