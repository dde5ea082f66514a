/- Draws: sources, numbers, matrices. No condition. -/
import Derived.Test.YtdchibdcfdbcpaaGreatGAA
import Derived.Test.YtdchibdcfdbcpaaGreatZabSrc
import Derived.Test.YtdchibdcfdbcpaaGreatZabG8
import Derived.Test.YtdchibdcfdbcpaaGreatZabG9
import Derived.Test.YtdchibdcfdbcpaaGreatGDD
import Derived.Test.YtdchibdcfdbcpaaGreatGBB
import Derived.Test.YtdchibdcfdbcpaaGreatGEE
namespace Go.Proofs.YtdchibdcfdbcpaaGreat
open Go.Ab

/- loop.example/g01343/spec.l01From -/
def f45.l1 (Q : Post) (code_0 : Value) (v5 : Value) (I1 : St [4] → Heap → Prop) (i_4 : Value) (H : Heap) : Prop :=
  W.len code_0 H fun v6 H =>
  W.bin .lss i_4 v6 H fun v7 H =>
  W.guarded v7 true (fun H k => k i_4 H) H fun v8 H =>
  W.guarded v7 true (fun H k => W.bin .lss v8 (.int .i64 4096) H k) H fun v9 H =>
  W.pick v7 v9 (.bool false) H fun v10 H =>
  W.cond v10 H
  (fun H => W.nilCheck v5 H fun v11 H =>
   W.fieldAddr 2 v11 H fun v12 H =>
   W.get v12 H fun v13 H =>
   W.bin .mul v13 (.int .u64 1099511628211) H fun v14 H =>
   W.indexAddr 1 code_0 i_4 H fun v15 H =>
   W.get v15 H fun v16 H =>
   W.conv .u64 v16 H fun v17 H =>
   W.bin .add v14 v17 H fun v18 H =>
   W.bin .add v18 (.int .u64 167) H fun v19 H =>
   W.nilCheck v5 H fun v20 H =>
   W.fieldAddr 2 v20 H fun v21 H =>
   W.put v21 v19 H fun _ H =>
   W.bin .add i_4 (.int .i64 1) H fun v22 H =>
   I1 (v22, ()) H)
  (fun H => Q v5 H)
def f45.w (Q : Post) (code_0 : Value) (H : Heap) : Prop :=
  W.len code_0 H fun v1 H =>
  W.conv .u64 v1 H fun v2 H =>
  W.bin .add (.int .u64 13431) v2 H fun v3 H =>
  W.build [(.slice none 0 0), (.int .i64 0), (.int .u64 0)] [(0, 1, code_0), (2, 1, v3)] H fun v4 H =>
  W.box v4 126 H fun v5 H =>
  W.loop (S := St [4]) (fun I1 s H => f45.l1 Q code_0 v5 I1 s.1 H) ((.int .i64 0), ()) H
theorem f45.enter {Q : Post} {code_0 : Value} {H : Heap} (h : f45.w Q code_0 H) : Runs Tryz.prog 45 #[code_0] H Q :=
  fn_enter (ann := [(3, [4])]) (by kernel_rfl) Tryz.func45 rfl (by kernel_rfl) h (by kernel_rfl)

/- loop.example/g01343/spec.l01Next -/
def f47.j1 (Q : Post) (n_1 : Value) (x_5 : Value) (H : Heap) : Prop :=
  W.bin .rem x_5 n_1 H fun v39 H =>
  Q v39 H
def f47.w (Q : Post) (s_0 : Value) (n_1 : Value) (H : Heap) : Prop :=
  W.bin .lss n_1 (.int .i64 1) H fun v1 H =>
  W.cond v1 H
  (fun H => Q (.int .i64 0) H)
  (fun H => W.nilCheck s_0 H fun v2 H =>
   W.fieldAddr 2 v2 H fun v3 H =>
   W.get v3 H fun v4 H =>
   W.bin .mul v4 (.int .u64 6364136223846793005) H fun v5 H =>
   W.bin .add v5 (.int .u64 1442695040888963407) H fun v6 H =>
   W.nilCheck s_0 H fun v7 H =>
   W.fieldAddr 2 v7 H fun v8 H =>
   W.put v8 v6 H fun _ H =>
   W.nilCheck s_0 H fun v9 H =>
   W.fieldAddr 2 v9 H fun v10 H =>
   W.get v10 H fun v11 H =>
   W.bin .shr v11 (.int .u64 31) H fun v12 H =>
   W.bin .and v12 (.int .u64 1073741823) H fun v13 H =>
   W.conv .i64 v13 H fun v14 H =>
   W.nilCheck s_0 H fun v15 H =>
   W.fieldAddr 1 v15 H fun v16 H =>
   W.get v16 H fun v17 H =>
   W.nilCheck s_0 H fun v18 H =>
   W.fieldAddr 0 v18 H fun v19 H =>
   W.get v19 H fun v20 H =>
   W.len v20 H fun v21 H =>
   W.bin .lss v17 v21 H fun v22 H =>
   W.cond v22 H
   (fun H => W.nilCheck s_0 H fun v23 H =>
    W.fieldAddr 0 v23 H fun v24 H =>
    W.get v24 H fun v25 H =>
    W.nilCheck s_0 H fun v26 H =>
    W.fieldAddr 1 v26 H fun v27 H =>
    W.get v27 H fun v28 H =>
    W.indexAddr 1 v25 v28 H fun v29 H =>
    W.get v29 H fun v30 H =>
    W.conv .i64 v30 H fun v31 H =>
    W.bin .add v14 v31 H fun v32 H =>
    W.nilCheck s_0 H fun v33 H =>
    W.fieldAddr 1 v33 H fun v34 H =>
    W.get v34 H fun v35 H =>
    W.bin .add v35 (.int .i64 1) H fun v36 H =>
    W.nilCheck s_0 H fun v37 H =>
    W.fieldAddr 1 v37 H fun v38 H =>
    W.put v38 v36 H fun _ H =>
    f47.j1 Q n_1 v32 H)
   (fun H => f47.j1 Q n_1 v14 H))
theorem f47.enter {Q : Post} {s_0 : Value} {n_1 : Value} {H : Heap} (h : f47.w Q s_0 n_1 H) : Runs Tryz.prog 47 #[s_0, n_1] H Q :=
  fn_enter (ann := []) (by kernel_rfl) Tryz.func47 rfl (by kernel_rfl) h (by kernel_rfl)

/- loop.example/g01343/spec.l01Pick -/
def f70.w (Q : Post) (s_0 : Value) (list_1 : Value) (H : Heap) : Prop :=
  W.len list_1 H fun v1 H =>
  W.call Tryz.prog (.func (.func 47) #[] #[]) #[s_0, v1] H fun v2 H =>
  W.indexAddr 1 list_1 v2 H fun v3 H =>
  W.get v3 H fun v4 H =>
  Q v4 H
theorem f70.enter {Q : Post} {s_0 : Value} {list_1 : Value} {H : Heap} (h : f70.w Q s_0 list_1 H) : Runs Tryz.prog 70 #[s_0, list_1] H Q :=
  fn_enter (ann := []) (by kernel_rfl) Tryz.func70 rfl (by kernel_rfl) h (by kernel_rfl)

/- loop.example/g01343/spec.l01DrawPart -/
def f84.w (Q : Post) (s_0 : Value) (most_1 : Value) (H : Heap) : Prop :=
  W.bin .mul (.int .i64 2) most_1 H fun v1 H =>
  W.bin .add v1 (.int .i64 1) H fun v2 H =>
  W.call Tryz.prog (.func (.func 47) #[] #[]) #[s_0, v2] H fun v3 H =>
  W.bin .sub v3 most_1 H fun v4 H =>
  Q v4 H
theorem f84.enter {Q : Post} {s_0 : Value} {most_1 : Value} {H : Heap} (h : f84.w Q s_0 most_1 H) : Runs Tryz.prog 84 #[s_0, most_1] H Q :=
  fn_enter (ann := []) (by kernel_rfl) Tryz.func84 rfl (by kernel_rfl) h (by kernel_rfl)

/- loop.example/g01343/spec.l01DrawM -/
def f105.l2 (Q : Post) (n_1 : Value) (s_0 : Value) (most_2 : Value) (out_7 : Value) (i_8 : Value) (I1 : St [7, 8] → Heap → Prop) (I2 : St [9, 10] → Heap → Prop) (row_9 : Value) (k_10 : Value) (H : Heap) : Prop :=
  W.bin .lss k_10 n_1 H fun v4 H =>
  W.cond v4 H
  (fun H => W.call Tryz.prog (.func (.func 84) #[] #[]) #[s_0, most_2] H fun v5 H =>
   W.lit 3 [(.int .i64 0)] 2 [(0, 1, (.int .i64 0)), (1, 1, (.int .i64 1)), (2, 1, (.int .i64 1))] H fun v6 H =>
   W.call Tryz.prog (.func (.func 70) #[] #[]) #[s_0, v6] H fun v7 H =>
   W.bin .mul v5 v7 H fun v8 H =>
   W.lit 1 [(.int .i64 0)] 2 [(0, 1, v8)] H fun v9 H =>
   W.append 1 2 row_9 v9 H fun v10 H =>
   W.bin .add k_10 (.int .i64 1) H fun v11 H =>
   I2 (v10, v11, ()) H)
  (fun H => W.lit 1 [(.slice none 0 0)] 25 [(0, 1, row_9)] H fun v12 H =>
   W.append 1 25 out_7 v12 H fun v13 H =>
   W.bin .add i_8 (.int .i64 1) H fun v14 H =>
   I1 (v13, v14, ()) H)
def f105.l1 (Q : Post) (n_1 : Value) (s_0 : Value) (most_2 : Value) (I1 : St [7, 8] → Heap → Prop) (out_7 : Value) (i_8 : Value) (H : Heap) : Prop :=
  W.bin .lss i_8 n_1 H fun v2 H =>
  W.cond v2 H
  (fun H => W.lit 0 [(.int .i64 0)] 2 [] H fun v3 H =>
   W.loop (S := St [9, 10]) (fun I2 s H => f105.l2 Q n_1 s_0 most_2 out_7 i_8 I1 I2 s.1 s.2.1 H) (v3, (.int .i64 0), ()) H)
  (fun H => Q out_7 H)
def f105.w (Q : Post) (s_0 : Value) (n_1 : Value) (most_2 : Value) (H : Heap) : Prop :=
  W.lit 0 [(.slice none 0 0)] 25 [] H fun v1 H =>
  W.loop (S := St [7, 8]) (fun I1 s H => f105.l1 Q n_1 s_0 most_2 I1 s.1 s.2.1 H) (v1, (.int .i64 0), ()) H
theorem f105.enter {Q : Post} {s_0 : Value} {n_1 : Value} {most_2 : Value} {H : Heap} (h : f105.w Q s_0 n_1 most_2 H) : Runs Tryz.prog 105 #[s_0, n_1, most_2] H Q :=
  fn_enter (ann := [(3, [7, 8]), (7, [9, 10])]) (by kernel_rfl) Tryz.func105 rfl (by kernel_rfl) h (by kernel_rfl)


abbrev RBytes : Rd (List Int) := Rd.slice Rd.u8

section
variable {H0 H : Heap} {L : List (Atom H0.next)} {Q : Post} {b i : Nat} {vc : Value} {code : List Int}

theorem fn47 {n : Int} (h : Ab.Loc H0 L H) (hi : L[i]? = some (.src b vc code)) (hQ : ∀ H' (x : Int), Ab.Loc H0 L H' → 0 ≤ x ∧ x < 1073742080 → (1 ≤ n → x < n) → Q (.int .i64 x) H') : Runs Tryz.prog 47 #[pt b 0, .int .i64 n] H Q := by
  refine f47.enter ?_
  unfold f47.w
  refine Wi.lssC (fun h1 => Wi.tru (hQ _ 0 h ⟨by decide, by decide⟩ fun g => by omega)) fun h1 => Wi.fls ?_
  obtain ⟨a, hh, ty, e, hk, ha, hc, hb0, up⟩ := h.src hi
  refine Wi.nilP (Wi.fieldAddr (Wi.get hk rfl (Wi.mulU fun c1 => Wi.addU fun c2 => Wi.nilP (Wi.fieldAddr (Wi.put hk rfl rfl (by simp) fun H1 w1 => ?_)))))
  have k1 : H1.blk b = some ⟨[vc, .int .i64 (a : Int), .int .u64 c2], ty, e, false⟩ := w1.here
  refine Wi.nilP (Wi.fieldAddr (Wi.get k1 rfl (Wi.shrU (by decide) fun c3 => Wi.andU (m := 1073741823) (by decide) fun m hm => Wi.convI (by unfold I64; omega) ?_)))
  refine Wi.nilP (Wi.fieldAddr (Wi.get k1 rfl (Wi.nilP (Wi.fieldAddr (Wi.get k1 rfl ?_)))))
  have h1' : Ab.Loc H0 L H1 := up H1 (by rw [w1.next]; exact Nat.le_refl _) (fun c _ hcb => w1.off c hcb) ⟨a, c2, ty, e, k1, ha⟩
  have hc1 : Has RBytes H1 [vc] code := (h1'.src hi).elim fun _ g => g.elim fun _ g => g.elim fun _ g => g.elim fun _ g => g.2.2.1
  have hsm := hc1.small
  have fin : ∀ H2 (x : Int), Ab.Loc H0 L H2 → 0 ≤ x → x < 1073742080 → f47.j1 Q (.int .i64 n) (.int .i64 x) H2 := fun H2 x h2 g1 g2 => by
    unfold f47.j1
    have e1 := Int.tmod_nonneg n g1
    have e2 : x.tmod n ≤ x := by
      have e : x.tmod n = ((x.toNat % n.toNat : Nat) : Int) := by
        rw [Int.ofNat_tmod, show ((x.toNat : Nat) : Int) = x by omega, show ((n.toNat : Nat) : Int) = n by omega]
      have := Nat.mod_le x.toNat n.toNat
      omega
    have e3 : x.tmod n < n := Int.tmod_lt_of_pos x (by omega)
    exact Wi.remI (by omega) (hQ _ _ h2 ⟨e1, by omega⟩ fun _ => e3)
  refine Wl.lenH hc1 (Wi.lssC (fun hlt => Wi.tru ?_) fun hge => Wi.fls (fin _ _ h1' (by omega) (by omega)))
  have hac : a < code.length := by omega
  refine Wi.nilP (Wi.fieldAddr (Wi.get k1 rfl (Wi.nilP (Wi.fieldAddr (Wi.get k1 rfl ?_)))))
  refine Wl.at1H (r := Rd.u8) rfl hc1 hac fun u hu => ?_
  obtain ⟨_, hu⟩ := hu
  obtain ⟨_, hu, hx1, hx2⟩ := hu
  simp only [List.cons.injEq, and_true] at hu
  subst hu
  refine Wi.convI (by unfold I64; omega) (Wi.add (by unfold I64; omega) (Wi.nilP (Wi.fieldAddr (Wi.get k1 rfl (Wi.add (by unfold I64; omega) (Wi.nilP (Wi.fieldAddr (Wi.put k1 rfl rfl (by simp) fun H2 w2 => ?_))))))))
  have k2 : H2.blk b = some ⟨[vc, .int .i64 ((a : Int) + 1), .int .u64 c2], ty, e, false⟩ := w2.here
  refine fin _ _ (up H2 (by rw [w2.next, w1.next]; exact Nat.le_refl _) (fun c _ hcb => (w2.off c hcb).trans (w1.off c hcb)) ⟨a + 1, c2, ty, e, by rw [k2]; rfl, hac⟩) (by omega) (by omega)

theorem fn70 {vl : Value} {l : List Int} (h : Ab.Loc H0 L H) (hi : L[i]? = some (.src b vc code)) (hl : ∀ H, Ab.Loc H0 L H → Has RS H [vl] l) (h0 : 0 < l.length) (hQ : ∀ H' (x : Int), Ab.Loc H0 L H' → x ∈ l → Q (.int .i64 x) H') : Runs Tryz.prog 70 #[pt b 0, vl] H Q := by
  refine f70.enter (Wl.lenH (hl H h) (Wi.call (fn47 h hi fun H x h hx hn => ?_)))
  have hlt := hn (by omega)
  obtain ⟨j, rfl⟩ : ∃ j : Nat, x = (j : Int) := ⟨x.toNat, by omega⟩
  exact Wl.atIntH (hl H h) (i := j) (by omega) fun _ => hQ _ _ h (List.getElem_mem _)

theorem fn84 {most : Int} (h : Ab.Loc H0 L H) (hi : L[i]? = some (.src b vc code)) (hm : 0 ≤ most ∧ most ≤ 100) (hQ : ∀ H' (x : Int), Ab.Loc H0 L H' → x.natAbs ≤ most.toNat → Q (.int .i64 x) H') : Runs Tryz.prog 84 #[pt b 0, .int .i64 most] H Q := by
  refine f84.enter (Wi.mul (by unfold I64; omega) (Wi.add (by unfold I64; omega) (Wi.call (fn47 h hi fun H x h hx hn => ?_))))
  have := hn (by omega)
  exact Wi.sub (by unfold I64; omega) (hQ _ _ h (by omega))

/-- Rows of so many numbers, bounded. -/
def Small (n m : Nat) (xs : List (List Int)) : Prop := ∀ r ∈ xs, r.length = n ∧ ∀ x ∈ r, x.natAbs ≤ m

theorem fn105 {n : Nat} {most : Int} (h : Ab.Loc H0 L H) (hi : L[i]? = some (.src b vc code)) (hn : n ≤ 5) (hm : 0 ≤ most ∧ most ≤ 100) (hQ : ∀ H' u (m : List (List Int)), Ab.Loc H0 (.data RSS [u] m :: L) H' → m.length = n → Small n most.toNat m → Q u H') :
    Runs Tryz.prog 105 #[pt b 0, .int .i64 (n : Nat), .int .i64 most] H Q := by
  refine f105.enter ?_
  unfold f105.w
  refine Wl.lit0 (ty := 25) RS rfl h fun H u h => ?_
  refine W.for_rule n (fun x st H => ∃ u m, st = (u, .int .i64 (x : Nat), ()) ∧ m.length = x ∧ Small n most.toNat m ∧ Ab.Loc H0 (.grow RS 25 u m :: L) H) ⟨u, [], rfl, rfl, (fun r hr => by cases hr), h⟩ ?_
  rintro x st H J hx ⟨u, m, rfl, hml, hsm, h⟩ hJ
  refine Wi.lssC (fun hlt => Wi.tru ?_) fun hge => Wi.fls ?_
  · have hxn : x < n := by omega
    refine Wl.lit0 (ty := 2) Rd.int rfl h fun H w h => ?_
    refine W.for_rule n (fun y st H => ∃ w r, st = (w, .int .i64 (y : Nat), ()) ∧ r.length = y ∧ (∀ z ∈ r, z.natAbs ≤ most.toNat) ∧ Ab.Loc H0 (.grow Rd.int 2 w r :: .grow RS 25 u m :: L) H) ⟨w, [], rfl, rfl, (fun r hr => by cases hr), h⟩ ?_
    rintro y st H J2 hy ⟨w, r, rfl, hrl, hrs, h⟩ hJ2
    refine Wi.lssC (fun hlt2 => Wi.tru ?_) fun hge2 => Wi.fls ?_
    · have hyn : y < n := by omega
      refine Wi.call (fn84 (i := i + 2) h (by simpa using hi) hm fun H z h hz => ?_)
      refine Wl.litN [0, 1, 1] rfl (by decide) (by simp [I64]) rfl h fun H vl h => Wi.call (fn70 (i := i + 3) h (by simpa using hi) (fun H h => h.rd (cs := [vl])) (by decide) fun H t h ht => ?_)
      have ht : t = 0 ∨ t = 1 := by simp at ht; omega
      have hzt : (z * t).natAbs ≤ most.toNat := by rcases ht with rfl | rfl <;> simp <;> omega
      refine Wi.mul (by unfold I64; omega) (Wl.pushP (r := Rd.int) (x := z * t) (i := 1) rfl rfl rfl (fun _ => ⟨rfl, rfl, by unfold I64; omega⟩) h (by omega) fun H w' h => Wi.add (by unfold I64; omega) (hJ2 _ _ hyn ⟨w', r ++ [z * t], rfl, by simp; omega, fun q hq => ?_, h.tl⟩))
      rcases List.mem_append.1 hq with hq | hq
      · exact hrs q hq
      · rw [List.mem_singleton] at hq; rw [hq]; exact hzt
    · have hyn : y = n := by omega
      have h := h.asData (i := 0) rfl
      have hcu := (h.rd (cs := [w]) (r := RS)).one
      refine Wl.pushO (r := RS) (u := w) (x := r) (i := 1) (j := 0) (L2 := fun v' => .data RS [w] r :: .grow RS 25 v' (m ++ [r]) :: L) (L3 := fun v' => .emp :: .grow RS 25 v' (m ++ [r]) :: L) rfl h (by decide) hcu (by omega) fun H u' h => Wi.add (by unfold I64; omega) (hJ _ _ hxn ⟨u', m ++ [r], rfl, by simp; omega, fun q hq => ?_, h.tl⟩)
      rcases List.mem_append.1 hq with hq | hq
      · exact hsm q hq
      · rw [List.mem_singleton] at hq; rw [hq]; exact ⟨by omega, hrs⟩
  · exact hQ _ _ _ (h.asData (i := 0) rfl) (by omega) hsm


end

theorem fn45 {H0 H : Heap} {L : List (Atom H0.next)} {Q : Post} {vc : Value} {code : List Int} (hc0 : Has RBytes H0 [vc] code) (h : Ab.Loc H0 L H) (hQ : ∀ H' b, Ab.Loc H0 (.src b vc code :: L) H' → Q (pt b 0) H') : Runs Tryz.prog 45 #[vc] H Q := by
  have hc := hc0.le h.le
  have hsm := hc.small
  refine f45.enter ?_
  unfold f45.w
  refine Wl.lenH hc (Wi.convU fun c1 => Wi.addU fun c2 => Wi.build (cells := [vc, .int .i64 0, .int .u64 c2]) (by have e : cellsA (.int .u64 c2) = some [.int .u64 c2] := rfl; simp [fillA, hc.one, e]) ?_)
  refine Wl.box h fun H b h => ?_
  have h : Ab.Loc H0 (.src b vc code :: L) H := h.as (i := 0) rfl fun bs hb => by
    obtain ⟨h1, h2, ty, e, h3⟩ := hb
    obtain ⟨bs2, hr2⟩ := hc0
    exact ⟨bs, ⟨h1, h2, ⟨0, c2, ty, e, h3, Nat.zero_le _⟩, bs2, Rd.le _ hr2 h.le, fun c hc => Rd.low _ hr2 c hc⟩, fun c hc => hc⟩
  refine W.for_rule code.length (fun x st H => st = (.int .i64 (x : Nat), ()) ∧ Ab.Loc H0 (.src b vc code :: L) H) ⟨rfl, h⟩ ?_
  rintro x st H J hx ⟨rfl, h⟩ hJ
  obtain ⟨a, hh, ty, e, hk, ha, hcH, hb0, up⟩ := h.src (i := 0) rfl
  refine Wl.lenH hcH (Wi.lssC (fun hlt => ?_) fun hge => ?_)
  · simp only [gw]
    generalize (4096 : Int) = top
    refine Wi.lssC (fun h4 => ?_) fun h4 => ?_
    · simp only [gw]
      have hxc : x < code.length := by omega
      refine Wi.nilP (Wi.fieldAddr (Wi.get hk rfl (Wi.mulU fun c3 => Wl.at1H (r := Rd.u8) rfl hcH hxc fun u hu => ?_)))
      obtain ⟨_, hu⟩ := hu
      obtain ⟨_, hu, _, _⟩ := hu
      simp only [List.cons.injEq, and_true] at hu
      subst hu
      refine Wi.convU fun c4 => Wi.addU fun c5 => Wi.addU fun c6 => Wi.nilP (Wi.fieldAddr (Wi.put hk rfl rfl (by simp) fun H1 w1 => Wi.add (by unfold I64; omega) (hJ _ _ hxc ⟨rfl, ?_⟩)))
      exact up H1 (by rw [w1.next]; exact Nat.le_refl _) (fun c _ hcb => w1.off c hcb) ⟨a, c6, ty, e, w1.here, ha⟩
    · simp only [gw]
      exact hQ _ _ h
  · simp only [gw]
    exact hQ _ _ h

end Go.Proofs.YtdchibdcfdbcpaaGreat
/-! The contract of l09Rows. No condition. -/
namespace Go.Proofs.YtdchibdcfdbcpaaGreat
open Go.Ab

/- loop.example/g01343/spec.l09Rows -/
def f78.l1 (Q : Post) (rows_0 : Value) (I1 : St [3, 4] → Heap → Prop) (out_3 : Value) (i_4 : Value) (H : Heap) : Prop :=
  W.len rows_0 H fun v2 H =>
  W.bin .lss i_4 v2 H fun v3 H =>
  W.cond v3 H
  (fun H => W.indexAddr 1 rows_0 i_4 H fun v4 H =>
   W.get v4 H fun v5 H =>
   W.call Tryz.prog (.func (.func 79) #[] #[]) #[v5] H fun v6 H =>
   W.lit 1 [(.slice none 0 0)] 25 [(0, 1, v6)] H fun v7 H =>
   W.append 1 25 out_3 v7 H fun v8 H =>
   W.bin .add i_4 (.int .i64 1) H fun v9 H =>
   I1 (v8, v9, ()) H)
  (fun H => Q out_3 H)
def f78.w (Q : Post) (rows_0 : Value) (H : Heap) : Prop :=
  W.lit 0 [(.slice none 0 0)] 25 [] H fun v1 H =>
  W.loop (S := St [3, 4]) (fun I1 s H => f78.l1 Q rows_0 I1 s.1 s.2.1 H) (v1, (.int .i64 0), ()) H
theorem f78.enter {Q : Post} {rows_0 : Value} {H : Heap} (h : f78.w Q rows_0 H) : Runs Tryz.prog 78 #[rows_0] H Q :=
  fn_enter (ann := [(3, [3, 4])]) (by kernel_rfl) Tryz.func78 rfl (by kernel_rfl) h (by kernel_rfl)


theorem fn78 {H0 : Heap} {Q : Post} {v : Value} {m : List (List Int)} (hr : Has RSS H0 [v] m) (hm : okRows m) (hQ : ∀ H' u, FreshG RS 25 H0 u m H' → Q u H') : Runs Tryz.prog 78 #[v] H0 Q := by
  refine f78.enter (Wl.lit0 RS rfl ((Loc.start H0).lent hr) fun H u h => ?_)
  refine W.for_rule m.length (fun i s H => ∃ u, s = (u, .int .i64 (i : Nat), ()) ∧ Ab.Loc H0 [.grow RS 25 u (m.take i), .lent RSS [v] m] H) ⟨_, rfl, h⟩ ?_
  rintro i s H J hi ⟨u, rfl, h⟩ hJ
  have := hm.1
  refine Wl.len h (Wi.lssC (fun hlt => Wi.tru ?_) fun hge => Wi.fls ?_)
  · have hix : i < m.length := by omega
    refine Wl.at1 rfl h hix fun w hw => Wi.call (fn79 hw (by have := hm.2 _ (List.getElem_mem hix); omega) fun H2 u2 f => ?_)
    refine Wl.pushF rfl h f.fresh f.fresh.read.one (by simp; omega) fun H3 v' h => Wi.add (by unfold I64; omega) (hJ _ _ hix ⟨v', rfl, ?_⟩)
    rw [List.take_succ_eq_append_getElem hix]
    exact h
  · have : i = m.length := by omega
    subst this
    rw [List.take_length] at h
    exact hQ _ _ (h.retGG (i := 0) rfl)

end Go.Proofs.YtdchibdcfdbcpaaGreat

/-! The contracts of l09Minus, l09Zeros, l09Linear and the reference's DualProgram. No condition. -/
namespace Go.Proofs.YtdchibdcfdbcpaaGreat
open Go.Ab

/- loop.example/g01343/spec.l09Minus -/
def f56.l1 (Q : Post) (list_0 : Value) (I1 : St [3, 4] → Heap → Prop) (out_3 : Value) (i_4 : Value) (H : Heap) : Prop :=
  W.len list_0 H fun v2 H =>
  W.bin .lss i_4 v2 H fun v3 H =>
  W.cond v3 H
  (fun H => W.indexAddr 1 list_0 i_4 H fun v4 H =>
   W.get v4 H fun v5 H =>
   W.un .neg v5 H fun v6 H =>
   W.lit 1 [(.int .i64 0)] 2 [(0, 1, v6)] H fun v7 H =>
   W.append 1 2 out_3 v7 H fun v8 H =>
   W.bin .add i_4 (.int .i64 1) H fun v9 H =>
   I1 (v8, v9, ()) H)
  (fun H => Q out_3 H)
def f56.w (Q : Post) (list_0 : Value) (H : Heap) : Prop :=
  W.lit 0 [(.int .i64 0)] 2 [] H fun v1 H =>
  W.loop (S := St [3, 4]) (fun I1 s H => f56.l1 Q list_0 I1 s.1 s.2.1 H) (v1, (.int .i64 0), ()) H
theorem f56.enter {Q : Post} {list_0 : Value} {H : Heap} (h : f56.w Q list_0 H) : Runs Tryz.prog 56 #[list_0] H Q :=
  fn_enter (ann := [(3, [3, 4])]) (by kernel_rfl) Tryz.func56 rfl (by kernel_rfl) h (by kernel_rfl)

/- loop.example/g01343/spec.l09Zeros -/
def f48.l1 (Q : Post) (n_0 : Value) (I1 : St [3, 4] → Heap → Prop) (out_3 : Value) (i_4 : Value) (H : Heap) : Prop :=
  W.bin .lss i_4 n_0 H fun v2 H =>
  W.cond v2 H
  (fun H => W.make [(.int .i64 0)] 2 n_0 n_0 H fun v3 H =>
   W.lit 1 [(.slice none 0 0)] 25 [(0, 1, v3)] H fun v4 H =>
   W.append 1 25 out_3 v4 H fun v5 H =>
   W.bin .add i_4 (.int .i64 1) H fun v6 H =>
   I1 (v5, v6, ()) H)
  (fun H => Q out_3 H)
def f48.w (Q : Post) (n_0 : Value) (H : Heap) : Prop :=
  W.lit 0 [(.slice none 0 0)] 25 [] H fun v1 H =>
  W.loop (S := St [3, 4]) (fun I1 s H => f48.l1 Q n_0 I1 s.1 s.2.1 H) (v1, (.int .i64 0), ()) H
theorem f48.enter {Q : Post} {n_0 : Value} {H : Heap} (h : f48.w Q n_0 H) : Runs Tryz.prog 48 #[n_0] H Q :=
  fn_enter (ann := [(3, [3, 4])]) (by kernel_rfl) Tryz.func48 rfl (by kernel_rfl) h (by kernel_rfl)

/- loop.example/g01343/spec.l09Linear -/
def f55.l2 (Q : Post) (v1 : Value) (i_3 : Value) (I1 : St [3] → Heap → Prop) (I2 : St [4] → Heap → Prop) (k_4 : Value) (H : Heap) : Prop :=
  W.fieldAddr 0 v1 H fun v6 H =>
  W.get v6 H fun v7 H =>
  W.indexAddr 1 v7 i_3 H fun v8 H =>
  W.get v8 H fun v9 H =>
  W.len v9 H fun v10 H =>
  W.bin .lss k_4 v10 H fun v11 H =>
  W.cond v11 H
  (fun H => W.fieldAddr 0 v1 H fun v12 H =>
   W.get v12 H fun v13 H =>
   W.indexAddr 1 v13 i_3 H fun v14 H =>
   W.get v14 H fun v15 H =>
   W.indexAddr 1 v15 k_4 H fun v16 H =>
   W.get v16 H fun v17 H =>
   W.bin .neq v17 (.int .i64 0) H fun v18 H =>
   W.cond v18 H
   (fun H => Q (.bool false) H)
   (fun H => W.bin .add k_4 (.int .i64 1) H fun v19 H =>
    I2 (v19, ()) H))
  (fun H => W.bin .add i_3 (.int .i64 1) H fun v20 H =>
   I1 (v20, ()) H)
def f55.l1 (Q : Post) (v1 : Value) (I1 : St [3] → Heap → Prop) (i_3 : Value) (H : Heap) : Prop :=
  W.fieldAddr 0 v1 H fun v2 H =>
  W.get v2 H fun v3 H =>
  W.len v3 H fun v4 H =>
  W.bin .lss i_3 v4 H fun v5 H =>
  W.cond v5 H
  (fun H => W.loop (S := St [4]) (fun I2 s H => f55.l2 Q v1 i_3 I1 I2 s.1 H) ((.int .i64 0), ()) H)
  (fun H => Q (.bool true) H)
def f55.w (Q : Post) (p_0 : Value) (H : Heap) : Prop :=
  W.box p_0 27 H fun v1 H =>
  W.loop (S := St [3]) (fun I1 s H => f55.l1 Q v1 I1 s.1 H) ((.int .i64 0), ()) H
theorem f55.enter {Q : Post} {p_0 : Value} {H : Heap} (h : f55.w Q p_0 H) : Runs Tryz.prog 55 #[p_0] H Q :=
  fn_enter (ann := [(2, [3]), (5, [4])]) (by kernel_rfl) Tryz.func55 rfl (by kernel_rfl) h (by kernel_rfl)

/- loop.example/g01343/spec.DualProgram -/
def f8.l2 (Q : Post) (v1 : Value) (i_5 : Value) (v30 : Value) (I1 : St [5] → Heap → Prop) (I2 : St [6, 7] → Heap → Prop) (row_6 : Value) (j_7 : Value) (H : Heap) : Prop :=
  W.fieldAddr 3 v1 H fun v36 H =>
  W.get v36 H fun v37 H =>
  W.len v37 H fun v38 H =>
  W.bin .lss j_7 v38 H fun v39 H =>
  W.cond v39 H
  (fun H => W.fieldAddr 2 v1 H fun v40 H =>
   W.get v40 H fun v41 H =>
   W.indexAddr 1 v41 j_7 H fun v42 H =>
   W.get v42 H fun v43 H =>
   W.indexAddr 1 v43 i_5 H fun v44 H =>
   W.get v44 H fun v45 H =>
   W.un .neg v45 H fun v46 H =>
   W.lit 1 [(.int .i64 0)] 2 [(0, 1, v46)] H fun v47 H =>
   W.append 1 2 row_6 v47 H fun v48 H =>
   W.bin .add j_7 (.int .i64 1) H fun v49 H =>
   I2 (v48, v49, ()) H)
  (fun H => W.fieldAddr 2 v30 H fun v50 H =>
   W.get v50 H fun v51 H =>
   W.lit 1 [(.slice none 0 0)] 25 [(0, 1, row_6)] H fun v52 H =>
   W.append 1 25 v51 v52 H fun v53 H =>
   W.fieldAddr 2 v30 H fun v54 H =>
   W.put v54 v53 H fun _ H =>
   W.bin .add i_5 (.int .i64 1) H fun v55 H =>
   I1 (v55, ()) H)
def f8.l1 (Q : Post) (v1 : Value) (v30 : Value) (v2 : Value) (I1 : St [5] → Heap → Prop) (i_5 : Value) (H : Heap) : Prop :=
  W.fieldAddr 1 v1 H fun v31 H =>
  W.get v31 H fun v32 H =>
  W.len v32 H fun v33 H =>
  W.bin .lss i_5 v33 H fun v34 H =>
  W.cond v34 H
  (fun H => W.lit 0 [(.int .i64 0)] 2 [] H fun v35 H =>
   W.loop (S := St [6, 7]) (fun I2 s H => f8.l2 Q v1 i_5 v30 I1 I2 s.1 s.2.1 H) (v35, (.int .i64 0), ()) H)
  (fun H => W.getN 4 v30 H fun v56 H =>
   W.putN 4 v2 v56 H fun _ H =>
   W.getN 4 v2 H fun v57 H => Q (.tuple #[v57, (.int .i64 0)]) H)
def f8.w (Q : Post) (p_0 : Value) (H : Heap) : Prop :=
  W.box p_0 27 H fun v1 H =>
  W.new [(.slice none 0 0), (.slice none 0 0), (.slice none 0 0), (.slice none 0 0)] 27 H fun v2 H =>
  W.getN 4 v1 H fun v3 H =>
  W.call Tryz.prog (.func (.func 54) #[] #[]) #[v3] H fun v4 H =>
  W.un .not v4 H fun v5 H =>
  W.cond v5 H
  (fun H => W.build [(.slice none 0 0), (.slice none 0 0), (.slice none 0 0), (.slice none 0 0)] [] H fun v6 H =>
   W.putN 4 v2 v6 H fun _ H =>
   W.getN 4 v2 H fun v7 H => Q (.tuple #[v7, (.int .i64 1)]) H)
  (fun H => W.getN 4 v1 H fun v8 H =>
   W.call Tryz.prog (.func (.func 55) #[] #[]) #[v8] H fun v9 H =>
   W.un .not v9 H fun v10 H =>
   W.guarded v10 false (fun H k => W.fieldAddr 3 v1 H k) H fun v11 H =>
   W.guarded v10 false (fun H k => W.get v11 H k) H fun v12 H =>
   W.guarded v10 false (fun H k => W.len v12 H k) H fun v13 H =>
   W.guarded v10 false (fun H k => W.bin .eql v13 (.int .i64 0) H k) H fun v14 H =>
   W.pick v10 (.bool true) v14 H fun v15 H =>
   W.cond v15 H
   (fun H => W.build [(.slice none 0 0), (.slice none 0 0), (.slice none 0 0), (.slice none 0 0)] [] H fun v16 H =>
    W.putN 4 v2 v16 H fun _ H =>
    W.getN 4 v2 H fun v17 H => Q (.tuple #[v17, (.int .i64 5)]) H)
   (fun H => W.fieldAddr 3 v1 H fun v18 H =>
    W.get v18 H fun v19 H =>
    W.len v19 H fun v20 H =>
    W.callQ Tryz.prog (.func (.func 48) #[] #[]) #[v20] H fun v21 H =>
    W.fieldAddr 3 v1 H fun v22 H =>
    W.get v22 H fun v23 H =>
    W.callQ Tryz.prog (.func (.func 56) #[] #[]) #[v23] H fun v24 H =>
    W.lit 0 [(.slice none 0 0)] 25 [] H fun v25 H =>
    W.fieldAddr 1 v1 H fun v26 H =>
    W.get v26 H fun v27 H =>
    W.callQ Tryz.prog (.func (.func 56) #[] #[]) #[v27] H fun v28 H =>
    W.build [(.slice none 0 0), (.slice none 0 0), (.slice none 0 0), (.slice none 0 0)] [(0, 1, v21), (1, 1, v24), (2, 1, v25), (3, 1, v28)] H fun v29 H =>
    W.new [(.slice none 0 0), (.slice none 0 0), (.slice none 0 0), (.slice none 0 0)] 27 H fun v30 H =>
    W.putN 4 v30 v29 H fun _ H =>
    W.loop (S := St [5]) (fun I1 s H => f8.l1 Q v1 v30 v2 I1 s.1 H) ((.int .i64 0), ()) H))
theorem f8.enter {Q : Post} {p_0 : Value} {H : Heap} (h : f8.w Q p_0 H) : Runs Tryz.prog 8 #[p_0] H Q :=
  fn_enter (ann := [(7, [5]), (11, [6, 7])]) (by kernel_rfl) Tryz.func8 rfl (by kernel_rfl) h (by kernel_rfl)


theorem fn56 {H0 : Heap} {Q : Post} {v : Value} {xs : List Int} (hr : Has RS H0 [v] xs) (hlen : xs.length ≤ 1048576) (hx : ∀ x ∈ xs, I64 (-x)) (hQ : ∀ H' u, FreshG Rd.int 2 H0 u (neg xs) H' → Q u H') : Runs Tryz.prog 56 #[v] H0 Q := by
  refine f56.enter (Wl.lit0 Rd.int rfl ((Loc.start H0).lent hr) fun H u h => ?_)
  refine W.for_rule xs.length (fun i s H => ∃ u, s = (u, .int .i64 (i : Nat), ()) ∧ Ab.Loc H0 [.grow Rd.int 2 u (neg (xs.take i)), .lent RS [v] xs] H) ⟨_, rfl, h⟩ ?_
  rintro i s H J hi ⟨u, rfl, h⟩ hJ
  refine Wl.len h (Wi.lssC (fun hlt => Wi.tru ?_) fun hge => Wi.fls ?_)
  · have hix : i < xs.length := by omega
    have hn := hx _ (List.getElem_mem hix)
    refine Wl.atInt h hix fun _ => Wi.neg hn (Wl.pushP (r := Rd.int) (x := -xs[i]) rfl rfl rfl (fun _ => ⟨rfl, rfl, hn⟩) h (by rw [neg_length]; simp; omega) fun H u' h => Wi.add (by unfold I64; omega) (hJ _ _ hix ⟨u', rfl, ?_⟩))
    rw [List.take_succ_eq_append_getElem hix]
    have e : neg (xs.take i ++ [xs[i]]) = neg (xs.take i) ++ [-xs[i]] := by unfold neg; rw [List.map_append]; rfl
    rw [e]
    exact h
  · have : i = xs.length := by omega
    subst this
    rw [List.take_length] at h
    exact hQ _ _ (h.retGG (i := 0) rfl)

theorem fn48 {H0 : Heap} {Q : Post} {n : Nat} (hn : n ≤ 1048576) (hQ : ∀ H' u, FreshG RS 25 H0 u (List.replicate n (List.replicate n 0)) H' → Q u H') : Runs Tryz.prog 48 #[.int .i64 n] H0 Q := by
  refine f48.enter (Wl.lit0 RS rfl (Loc.start H0) fun H u h => ?_)
  refine W.for_rule n (fun i s H => ∃ u, s = (u, .int .i64 (i : Nat), ()) ∧ Ab.Loc H0 [.grow RS 25 u (List.replicate i (List.replicate n 0))] H) ⟨_, rfl, h⟩ ?_
  rintro i s H J hi ⟨u, rfl, h⟩ hJ
  refine Wi.lssC (fun hlt => Wi.tru ?_) fun hge => Wi.fls ?_
  · refine Wl.make (r := Rd.int) (z := 0) (fun _ => ⟨rfl, rfl, by unfold I64; omega⟩) h (by omega) (by decide) fun H w h => Wl.pushG h (by simp; omega) fun H u' h => Wi.add (by unfold I64; omega) (hJ _ _ (by omega) ⟨u', rfl, ?_⟩)
    rw [List.replicate_succ']
    exact h
  · have : i = n := by omega
    subst this
    exact hQ _ _ (h.retGG (i := 0) rfl)

theorem fn55 {H0 : Heap} {Q : Post} {cs : List Value} {p : Prg} (hr : Has RPrg H0 cs p) (hQ : ∀ H' t, H0.Le H' → (t = true ↔ zeroD p.1) → Q (.bool t) H') : Runs Tryz.prog 55 #[.agg cs.toArray] H0 Q := by
  obtain ⟨u1, u2, u3, u4, rfl, r1, r2, r3, r4⟩ := hasPrg hr
  refine f55.enter ?_
  unfold f55.w
  have h := ((((Loc.start H0).lent r1).lent r2).lent r3).lent r4
  have hs := r1.small
  refine Wl.box h fun H b h => W.all_rule p.1.length (fun i => decide (∀ x ∈ p.1.getD i [], x = 0)) (fun i H1 J hi _ l hJ => ?_) fun H1 J hall l => ?_
  · have h := h.to l
    have e1 : p.1.getD i [] = p.1[i] := by simp [List.getD_eq_getElem?_getD, List.getElem?_eq_getElem hi]
    refine Wi.fieldAddr0 (Wl.get h rfl (Wl.len h (Wi.lssC (fun _ => Wi.tru ?_) fun h => by omega)))
    refine W.all_rule p.1[i].length (fun k => decide (p.1[i].getD k 0 = 0)) (fun k H2 J2 hk _ l2 hJ2 => ?_) fun H2 J2 hall2 l2 => ?_
    · have h := h.to l2
      have hks : p.1[i].length < 9223372036854775808 := by
        obtain ⟨_, hr⟩ := r1
        obtain ⟨b, o, e, kb, fs, q1, _, s⟩ := Rd.slice_at hr hi
        obtain ⟨u, _, ru⟩ := s.one rfl hi
        exact Has.small ⟨_, ru⟩
      refine Wi.fieldAddr0 (Wl.get h rfl (Wl.at1 rfl h hi fun w hw => Wl.lenH hw (Wi.lssC (fun _ => Wi.tru ?_) fun h => by omega)))
      refine Wi.fieldAddr0 (Wl.get h rfl (Wl.at1 rfl h hi fun w hw => Wl.atIntH hw hk fun _ => Wi.neqC (fun hne => Wi.tru ?_) fun heq => Wi.fls ?_))
      · exact hQ _ _ h.le ⟨fun e => Bool.noConfusion e, fun g => absurd (g _ (List.getElem_mem hi) _ (List.getElem_mem hk)) hne⟩
      · refine Wi.add (by unfold I64; omega) (hJ2 ?_ H2 (.refl _))
        simp [List.getD_eq_getElem?_getD, List.getElem?_eq_getElem hk, heq]
    · have h := h.to l2
      refine Wi.fieldAddr0 (Wl.get h rfl (Wl.at1 rfl h hi fun w hw => Wl.lenH hw (Wi.lssC (fun h => by omega) fun _ => Wi.fls ?_)))
      refine Wi.add (by unfold I64; omega) (hJ ?_ H2 l2)
      rw [e1]
      refine decide_eq_true fun x hx => ?_
      obtain ⟨k, hk, rfl⟩ := List.mem_iff_getElem.1 hx
      have := hall2 k hk
      simpa [List.getD_eq_getElem?_getD, List.getElem?_eq_getElem hk] using this
  · have h := h.to l
    refine Wi.fieldAddr0 (Wl.get h rfl (Wl.len h (Wi.lssC (fun h => by omega) fun _ => Wi.fls ?_)))
    refine hQ _ _ h.le ⟨fun _ r hr x hx => ?_, fun _ => rfl⟩
    obtain ⟨i, hi, rfl⟩ := List.mem_iff_getElem.1 hr
    have := hall i hi
    simp only [List.getD_eq_getElem?_getD, List.getElem?_eq_getElem hi, Option.getD_some, decide_eq_true_eq] at this
    exact this x hx


theorem fn8 {H0 : Heap} {Q : Post} {cs : List Value} {p : Prg} (hr : Has RPrg H0 cs p) (hw : wPrg p ≤ 1048576) (hQ : ∀ H' cs', Fresh RPrg H0 cs' (dpRes p).1 H' → Q (.tuple #[.agg cs'.toArray, .int .i64 (dpRes p).2]) H') :
    Runs Tryz.prog 8 #[.agg cs.toArray] H0 Q := by
  obtain ⟨u1, u2, u3, u4, rfl, r1, r2, r3, r4⟩ := hasPrg hr
  refine f8.enter ?_
  unfold f8.w
  have h := (((((Loc.start H0).lent r1).lent r2).lent r3).lent r4).lent hr
  refine Wl.box h fun H b h => Wl.new h fun H b2 h => Wl.getA h rfl (Wi.call (fn54 (h.rd (cs := [u1, u2, u3, u4])) hw fun H t l ht => ?_))
  have h := h.to l
  have hzero : ∀ H c, H0.Le H → (dpRes p) = (zPrg, c) → Q (.tuple #[.agg zCells4.toArray, .int .i64 c]) H := fun H c l e => by
    have := hQ H zCells4
    rw [e] at this
    exact this (fresh_nil4 l)
  cases t with
  | false =>
    have hp : ¬ IsPrg p := fun g => Bool.noConfusion (ht.2 g)
    simp only [g7, g10]
    exact Wi.build (cells := zCells4) rfl (Wl.putA h rfl rfl rfl fun H h => Wl.getA h rfl (hzero _ _ h.le (by simp only [dpRes, if_neg hp])))
  | true =>
  have hp := ht.1 rfl
  simp only [g8, g9]
  have n1 := hp.n1; have nm := hp.nm; have dl := hp.dl; have al := hp.al
  refine Wl.getA h rfl (Wi.call (fn55 (h.rd (cs := [u1, u2, u3, u4])) fun H t l hz => ?_))
  have h := h.to l
  cases t with
  | false =>
    have hz : ¬ zeroD p.1 := fun g => Bool.noConfusion (hz.2 g)
    simp only [g3, g5, g7, g10]
    exact Wi.build (cells := zCells4) rfl (Wl.putA h rfl rfl rfl fun H h => Wl.getA h rfl (hzero _ _ h.le (by
      simp only [dpRes, if_pos hp]
      rw [if_neg]
      exact fun g => hz g.1)))
  | true =>
  have hz := hz.1 rfl
  simp only [g4, g9]
  refine Wi.fieldAddr0 (Wl.get h rfl (Wl.len h (Wi.eqlC (fun h0 => ?_) fun h0 => ?_)))
  · simp only [g6, g7]
    exact Wi.build (cells := zCells4) rfl (Wl.putA h rfl rfl rfl fun H h => Wl.getA h rfl (hzero _ _ h.le (by
      simp only [dpRes, if_pos hp]
      rw [if_neg]
      omega)))
  have hd : dpRes p = (dualPrg p, 0) := by
    simp only [dpRes, if_pos hp]
    rw [if_pos ⟨hz, by omega⟩]
  rw [hd] at hQ
  simp only [g6, g8]
  have nb : ∀ x ∈ p.2.2.2, I64 (-x) := fun x hx => by have := hp.b x hx; unfold I64; omega
  have nc : ∀ x ∈ p.2.1, I64 (-x) := fun x hx => by have := hp.c x hx; unfold I64; omega
  refine Wi.fieldAddr0 (Wl.get h rfl (Wl.len h (Wi.callQ (fn48 (by omega) fun H w0 f0 => ⟨f0.le, ?_⟩))))
  have h := h.add f0.fresh
  refine Wi.fieldAddr0 (Wl.get h rfl (Wi.callQ (fn56 (h.rd (cs := [u4])) (by omega) nb fun H w1 f1 => ⟨f1.le, ?_⟩)))
  have h := h.add f1.fresh
  refine Wl.lit0 RS rfl h fun H w3 h => Wi.fieldAddr0 (Wl.get h rfl (Wi.callQ (fn56 (h.rd (cs := [u2])) (by omega) nc fun H w2 f2 => ⟨f2.le, ?_⟩)))
  have h := h.add f2.fresh
  have c0 := f0.fresh.read.cell1; have c1 := f1.fresh.read.cell1; have c2 := f2.fresh.read.cell1
  have c3 := (h.rd (cs := [w3])).cell1; have o3 := (h.rd (cs := [w3])).one
  refine Wi.build (cells := [w0, w1, w3, w2]) (by simp [fillA, f0.fresh.read.one, f1.fresh.read.one, f2.fresh.read.one, o3]) (Wl.new h fun H b3 h => Wl.putA h rfl rfl (by simp [c0, c1, c2, c3]) fun H h => ?_)
  refine W.for_rule p.2.1.length (fun i s H => ∃ g, s = (.int .i64 (i : Nat), ()) ∧ Ab.Loc H0 [.box b3 [w0, w1, g, w2], .data RS [w2] (neg p.2.1), .grow RS 25 g (((turnM p.2.2.1 p.2.1.length).map neg).take i), .data RS [w1] (neg p.2.2.2), .data RSS [w0] (List.replicate p.2.2.2.length (List.replicate p.2.2.2.length 0)), .box b2 zCells4, .box b [u1, u2, u3, u4], .lent RPrg [u1, u2, u3, u4] p, .lent RS [u4] p.2.2.2, .lent RSS [u3] p.2.2.1, .lent RS [u2] p.2.1] H) ⟨_, rfl, by simpa using h.first 11⟩ ?_
  rintro i s H J hi ⟨g, rfl, h⟩ hJ
  refine Wi.fieldAddr0 (Wl.get h rfl (Wl.len h (Wi.lssC (fun hlt => Wi.tru ?_) fun hge => Wi.fls ?_)))
  · refine Wl.lit0 Rd.int rfl h fun H r h => ?_
    refine W.for_rule p.2.2.2.length (fun j s H => ∃ r, s = (r, .int .i64 (j : Nat), ()) ∧ Ab.Loc H0 [.grow Rd.int 2 r (neg ((p.2.2.1.take j).map fun r => r.getD i 0)), .box b3 [w0, w1, g, w2], .data RS [w2] (neg p.2.1), .grow RS 25 g (((turnM p.2.2.1 p.2.1.length).map neg).take i), .data RS [w1] (neg p.2.2.2), .data RSS [w0] (List.replicate p.2.2.2.length (List.replicate p.2.2.2.length 0)), .box b2 zCells4, .box b [u1, u2, u3, u4], .lent RPrg [u1, u2, u3, u4] p, .lent RS [u4] p.2.2.2, .lent RSS [u3] p.2.2.1, .lent RS [u2] p.2.1] H) ⟨_, rfl, by simpa [neg] using h⟩ ?_
    rintro j s H J2 hj ⟨r, rfl, h⟩ hJ2
    refine Wi.fieldAddr0 (Wl.get h rfl (Wl.len h (Wi.lssC (fun hlt => Wi.tru ?_) fun hge => Wi.fls ?_)))
    · have hja : j < p.2.2.1.length := by omega
      have ha := hp.a _ (List.getElem_mem hja)
      have hia : i < p.2.2.1[j].length := by omega
      have hx := ha.2 _ (List.getElem_mem hia)
      have hn : I64 (-p.2.2.1[j][i]) := by unfold I64; omega
      refine Wi.fieldAddr0 (Wl.get h rfl (Wl.at1 rfl h hja fun v hv => Wl.atIntH hv hia fun _ => Wi.neg hn (Wl.pushP (r := Rd.int) (x := -p.2.2.1[j][i]) rfl rfl rfl (fun _ => ⟨rfl, rfl, hn⟩) h (by rw [neg_length]; simp; omega) fun H r' h => Wi.add (by unfold I64; omega) (hJ2 _ _ (by omega) ⟨r', rfl, ?_⟩))))
      have e : neg ((p.2.2.1.take (j + 1)).map fun r => r.getD i 0) = neg ((p.2.2.1.take j).map fun r => r.getD i 0) ++ [-p.2.2.1[j][i]] := by
        have e0 : p.2.2.1[j].getD i 0 = p.2.2.1[j][i] := by simp [List.getD_eq_getElem?_getD, List.getElem?_eq_getElem hia]
        rw [List.take_succ_eq_append_getElem hja, List.map_append]
        unfold neg
        rw [List.map_append]
        simp only [List.map_cons, List.map_nil, e0]
      rw [e]
      exact h
    · have : j = p.2.2.2.length := by omega
      subst this
      rw [List.take_of_length_le (by omega)] at h
      have hix2 : i < ((turnM p.2.2.1 p.2.1.length).map neg).length := by simp [turnM]; omega
      refine Wi.fieldAddr0 (Wl.get h rfl (Wl.pushG (v := g) h (by simp; omega) fun H g' h => Wi.fieldAddr0 (Wl.put h (h.rd (cs := [g'])).cell1 (by simp) fun H h => Wi.add (by unfold I64; omega) (hJ _ _ (by omega) ⟨g', rfl, ?_⟩))))
      rw [List.take_succ_eq_append_getElem hix2, List.getElem_map]
      have e : (turnM p.2.2.1 p.2.1.length)[i]'(by simpa using hix2) = p.2.2.1.map fun r => r.getD i 0 := by simp [turnM]
      rw [e]
      exact h
  · have : i = p.2.1.length := by omega
    subst this
    rw [List.take_of_length_le (by simp [turnM])] at h
    have k2 := (h.rd (cs := [g])).cell1
    refine Wl.getA h rfl (Wl.putA h rfl rfl (by simp [c0, c1, c2, k2]) fun H h => Wl.getA h rfl (hQ _ _ ?_))
    have h := h.asData (i := 2) rfl
    exact Loc.ret4 (p := dualPrg p) h (i1 := 4) (i2 := 3) (i3 := 2) (i4 := 1) rfl rfl rfl rfl (by decide)


end Go.Proofs.YtdchibdcfdbcpaaGreat

/-! Draws: programs. No condition. -/
namespace Go.Proofs.YtdchibdcfdbcpaaGreat
open Go.Ab

/- loop.example/g01343/spec.l09DrawOf -/
def f46.j1 (Q : Post) (row_9 : Value) (k_10 : Value) (I2 : St [9, 10] → Heap → Prop) (sum_11' : Value) (H : Heap) : Prop :=
  W.lit 1 [(.int .i64 0)] 2 [(0, 1, sum_11')] H fun v30 H =>
  W.append 1 2 row_9 v30 H fun v31 H =>
  W.bin .add k_10 (.int .i64 1) H fun v32 H =>
  I2 (v31, v32, ()) H
def f46.j2 (Q : Post) (row_9 : Value) (k_10 : Value) (I2 : St [9, 10] → Heap → Prop) (sum_11'' : Value) (H : Heap) : Prop :=
  f46.j1 Q row_9 k_10 I2 sum_11'' H
def f46.l3 (Q : Post) (v3 : Value) (v13 : Value) (i_8 : Value) (k_10 : Value) (v9 : Value) (row_9 : Value) (I2 : St [9, 10] → Heap → Prop) (I3 : St [11, 12] → Heap → Prop) (sum_11 : Value) (j_12 : Value) (H : Heap) : Prop :=
  W.bin .lss j_12 v3 H fun v17 H =>
  W.cond v17 H
  (fun H => W.indexAddr 1 v13 i_8 H fun v18 H =>
   W.get v18 H fun v19 H =>
   W.indexAddr 1 v19 j_12 H fun v20 H =>
   W.get v20 H fun v21 H =>
   W.indexAddr 1 v13 k_10 H fun v22 H =>
   W.get v22 H fun v23 H =>
   W.indexAddr 1 v23 j_12 H fun v24 H =>
   W.get v24 H fun v25 H =>
   W.bin .mul v21 v25 H fun v26 H =>
   W.bin .add sum_11 v26 H fun v27 H =>
   W.bin .add j_12 (.int .i64 1) H fun v28 H =>
   I3 (v27, v28, ()) H)
  (fun H => W.bin .eql v9 (.int .i64 0) H fun v29 H =>
   W.cond v29 H
   (fun H => f46.j1 Q row_9 k_10 I2 (.int .i64 0) H)
   (fun H => W.bin .eql v9 (.int .i64 1) H fun v33 H =>
    W.cond v33 H
    (fun H => W.indexAddr 1 v13 i_8 H fun v34 H =>
     W.get v34 H fun v35 H =>
     W.indexAddr 1 v35 k_10 H fun v36 H =>
     W.get v36 H fun v37 H =>
     W.indexAddr 1 v13 k_10 H fun v38 H =>
     W.get v38 H fun v39 H =>
     W.indexAddr 1 v39 i_8 H fun v40 H =>
     W.get v40 H fun v41 H =>
     W.bin .add v37 v41 H fun v42 H =>
     f46.j2 Q row_9 k_10 I2 v42 H)
    (fun H => f46.j2 Q row_9 k_10 I2 sum_11 H)))
def f46.l2 (Q : Post) (v3 : Value) (v13 : Value) (i_8 : Value) (v9 : Value) (v10 : Value) (s_0 : Value) (I1 : St [8] → Heap → Prop) (I2 : St [9, 10] → Heap → Prop) (row_9 : Value) (k_10 : Value) (H : Heap) : Prop :=
  W.bin .lss k_10 v3 H fun v16 H =>
  W.cond v16 H
  (fun H => W.loop (S := St [11, 12]) (fun I3 s H => f46.l3 Q v3 v13 i_8 k_10 v9 row_9 I2 I3 s.1 s.2.1 H) ((.int .i64 0), (.int .i64 0), ()) H)
  (fun H => W.fieldAddr 0 v10 H fun v43 H =>
   W.get v43 H fun v44 H =>
   W.lit 1 [(.slice none 0 0)] 25 [(0, 1, row_9)] H fun v45 H =>
   W.append 1 25 v44 v45 H fun v46 H =>
   W.fieldAddr 0 v10 H fun v47 H =>
   W.put v47 v46 H fun _ H =>
   W.fieldAddr 1 v10 H fun v48 H =>
   W.get v48 H fun v49 H =>
   W.lit 3 [(.int .i64 0)] 2 [(0, 1, (.int .i64 3)), (1, 1, (.int .i64 9)), (2, 1, (.int .i64 100))] H fun v50 H =>
   W.call Tryz.prog (.func (.func 70) #[] #[]) #[s_0, v50] H fun v51 H =>
   W.chk (fun H k => W.get v48 H k) v49 H (W.call Tryz.prog (.func (.func 84) #[] #[]) #[s_0, v51] H fun v52 H =>
   W.chk (fun H k => W.get v48 H k) v49 H (W.lit 1 [(.int .i64 0)] 2 [(0, 1, v52)] H fun v53 H =>
   W.append 1 2 v49 v53 H fun v54 H =>
   W.fieldAddr 1 v10 H fun v55 H =>
   W.put v55 v54 H fun _ H =>
   W.bin .add i_8 (.int .i64 1) H fun v56 H =>
   I1 (v56, ()) H)))
def f46.l5 (Q : Post) (v3 : Value) (s_0 : Value) (v10 : Value) (j_13 : Value) (I4 : St [13] → Heap → Prop) (I5 : St [14, 15] → Heap → Prop) (row_14 : Value) (k_15 : Value) (H : Heap) : Prop :=
  W.bin .lss k_15 v3 H fun v59 H =>
  W.cond v59 H
  (fun H => W.lit 3 [(.int .i64 0)] 2 [(0, 1, (.int .i64 1)), (1, 1, (.int .i64 3)), (2, 1, (.int .i64 20))] H fun v60 H =>
   W.call Tryz.prog (.func (.func 70) #[] #[]) #[s_0, v60] H fun v61 H =>
   W.call Tryz.prog (.func (.func 84) #[] #[]) #[s_0, v61] H fun v62 H =>
   W.lit 1 [(.int .i64 0)] 2 [(0, 1, v62)] H fun v63 H =>
   W.append 1 2 row_14 v63 H fun v64 H =>
   W.bin .add k_15 (.int .i64 1) H fun v65 H =>
   I5 (v64, v65, ()) H)
  (fun H => W.fieldAddr 2 v10 H fun v66 H =>
   W.get v66 H fun v67 H =>
   W.lit 1 [(.slice none 0 0)] 25 [(0, 1, row_14)] H fun v68 H =>
   W.append 1 25 v67 v68 H fun v69 H =>
   W.fieldAddr 2 v10 H fun v70 H =>
   W.put v70 v69 H fun _ H =>
   W.fieldAddr 3 v10 H fun v71 H =>
   W.get v71 H fun v72 H =>
   W.lit 3 [(.int .i64 0)] 2 [(0, 1, (.int .i64 3)), (1, 1, (.int .i64 9)), (2, 1, (.int .i64 100))] H fun v73 H =>
   W.call Tryz.prog (.func (.func 70) #[] #[]) #[s_0, v73] H fun v74 H =>
   W.chk (fun H k => W.get v71 H k) v72 H (W.call Tryz.prog (.func (.func 84) #[] #[]) #[s_0, v74] H fun v75 H =>
   W.chk (fun H k => W.get v71 H k) v72 H (W.lit 1 [(.int .i64 0)] 2 [(0, 1, v75)] H fun v76 H =>
   W.append 1 2 v72 v76 H fun v77 H =>
   W.fieldAddr 3 v10 H fun v78 H =>
   W.put v78 v77 H fun _ H =>
   W.bin .add j_13 (.int .i64 1) H fun v79 H =>
   I4 (v79, ()) H)))
def f46.l4 (Q : Post) (v7 : Value) (v3 : Value) (s_0 : Value) (v10 : Value) (v1 : Value) (I4 : St [13] → Heap → Prop) (j_13 : Value) (H : Heap) : Prop :=
  W.bin .lss j_13 v7 H fun v57 H =>
  W.cond v57 H
  (fun H => W.lit 0 [(.int .i64 0)] 2 [] H fun v58 H =>
   W.loop (S := St [14, 15]) (fun I5 s H => f46.l5 Q v3 s_0 v10 j_13 I4 I5 s.1 s.2.1 H) (v58, (.int .i64 0), ()) H)
  (fun H => W.getN 4 v10 H fun v80 H =>
   W.putN 4 v1 v80 H fun _ H =>
   W.getN 4 v1 H fun v81 H => Q v81 H)
def f46.l1 (Q : Post) (v3 : Value) (v13 : Value) (v9 : Value) (v10 : Value) (s_0 : Value) (v7 : Value) (v1 : Value) (I1 : St [8] → Heap → Prop) (i_8 : Value) (H : Heap) : Prop :=
  W.bin .lss i_8 v3 H fun v14 H =>
  W.cond v14 H
  (fun H => W.lit 0 [(.int .i64 0)] 2 [] H fun v15 H =>
   W.loop (S := St [9, 10]) (fun I2 s H => f46.l2 Q v3 v13 i_8 v9 v10 s_0 I1 I2 s.1 s.2.1 H) (v15, (.int .i64 0), ()) H)
  (fun H => W.loop (S := St [13]) (fun I4 s H => f46.l4 Q v7 v3 s_0 v10 v1 I4 s.1 H) ((.int .i64 0), ()) H)
def f46.w (Q : Post) (s_0 : Value) (H : Heap) : Prop :=
  W.new [(.slice none 0 0), (.slice none 0 0), (.slice none 0 0), (.slice none 0 0)] 27 H fun v1 H =>
  W.call Tryz.prog (.func (.func 47) #[] #[]) #[s_0, (.int .i64 3)] H fun v2 H =>
  W.bin .add (.int .i64 1) v2 H fun v3 H =>
  W.bin .sub (.int .i64 5) v3 H fun v4 H =>
  W.min2 v4 (.int .i64 3) H fun v5 H =>
  W.bin .add v5 (.int .i64 1) H fun v6 H =>
  W.call Tryz.prog (.func (.func 47) #[] #[]) #[s_0, v6] H fun v7 H =>
  W.build [(.slice none 0 0), (.slice none 0 0), (.slice none 0 0), (.slice none 0 0)] [] H fun v8 H =>
  W.call Tryz.prog (.func (.func 47) #[] #[]) #[s_0, (.int .i64 5)] H fun v9 H =>
  W.new [(.slice none 0 0), (.slice none 0 0), (.slice none 0 0), (.slice none 0 0)] 27 H fun v10 H =>
  W.putN 4 v10 v8 H fun _ H =>
  W.lit 2 [(.int .i64 0)] 2 [(0, 1, (.int .i64 1)), (1, 1, (.int .i64 2))] H fun v11 H =>
  W.call Tryz.prog (.func (.func 70) #[] #[]) #[s_0, v11] H fun v12 H =>
  W.call Tryz.prog (.func (.func 105) #[] #[]) #[s_0, v3, v12] H fun v13 H =>
  W.loop (S := St [8]) (fun I1 s H => f46.l1 Q v3 v13 v9 v10 s_0 v7 v1 I1 s.1 H) ((.int .i64 0), ()) H
theorem f46.enter {Q : Post} {s_0 : Value} {H : Heap} (h : f46.w Q s_0 H) : Runs Tryz.prog 46 #[s_0] H Q :=
  fn_enter (ann := [(6, [8]), (10, [9, 10]), (14, [11, 12]), (1000024, []), (26, [13]), (30, [14, 15]), (1000034, [])]) (by kernel_rfl) Tryz.func46 rfl (by kernel_rfl) h (by kernel_rfl)

/- loop.example/g01343/spec.l09Bad -/
def f49.j1 (Q : Post) (v1 : Value) (v2 : Value) (H : Heap) : Prop :=
  W.getN 4 v1 H fun v14 H =>
  W.putN 4 v2 v14 H fun _ H =>
  W.getN 4 v2 H fun v15 H => Q v15 H
def f49.j2 (Q : Post) (v1 : Value) (v2 : Value) (H : Heap) : Prop :=
  f49.j1 Q v1 v2 H
def f49.j3 (Q : Post) (v1 : Value) (v2 : Value) (H : Heap) : Prop :=
  f49.j2 Q v1 v2 H
def f49.w (Q : Post) (s_0 : Value) (p_1 : Value) (H : Heap) : Prop :=
  W.box p_1 27 H fun v1 H =>
  W.new [(.slice none 0 0), (.slice none 0 0), (.slice none 0 0), (.slice none 0 0)] 27 H fun v2 H =>
  W.call Tryz.prog (.func (.func 47) #[] #[]) #[s_0, (.int .i64 50)] H fun v3 H =>
  W.bin .eql v3 (.int .i64 0) H fun v4 H =>
  W.cond v4 H
  (fun H => W.build [(.slice none 0 0), (.slice none 0 0), (.slice none 0 0), (.slice none 0 0)] [] H fun v5 H =>
   W.putN 4 v2 v5 H fun _ H =>
   W.getN 4 v2 H fun v6 H => Q v6 H)
  (fun H => W.bin .eql v3 (.int .i64 1) H fun v7 H =>
   W.cond v7 H
   (fun H => W.fieldAddr 1 v1 H fun v8 H =>
    W.get v8 H fun v9 H =>
    W.call Tryz.prog (.func (.func 79) #[] #[]) #[v9] H fun v10 H =>
    W.lit 1 [(.int .i64 0)] 2 [(0, 1, (.int .i64 0))] H fun v11 H =>
    W.append 1 2 v10 v11 H fun v12 H =>
    W.fieldAddr 1 v1 H fun v13 H =>
    W.put v13 v12 H fun _ H =>
    f49.j1 Q v1 v2 H)
   (fun H => W.bin .eql v3 (.int .i64 2) H fun v16 H =>
    W.cond v16 H
    (fun H => W.fieldAddr 0 v1 H fun v17 H =>
     W.get v17 H fun v18 H =>
     W.call Tryz.prog (.func (.func 78) #[] #[]) #[v18] H fun v19 H =>
     W.fieldAddr 0 v1 H fun v20 H =>
     W.put v20 v19 H fun _ H =>
     W.fieldAddr 0 v1 H fun v21 H =>
     W.get v21 H fun v22 H =>
     W.fieldAddr 0 v1 H fun v23 H =>
     W.get v23 H fun v24 H =>
     W.len v24 H fun v25 H =>
     W.bin .sub v25 (.int .i64 1) H fun v26 H =>
     W.indexAddr 1 v22 v26 H fun v27 H =>
     W.get v27 H fun v28 H =>
     W.indexAddr 1 v28 (.int .i64 0) H fun v29 H =>
     W.get v29 H fun v30 H =>
     W.lit 2 [(.int .i64 0)] 2 [(0, 1, (.int .i64 1)), (1, 1, (.int .i64 30))] H fun v31 H =>
     W.call Tryz.prog (.func (.func 70) #[] #[]) #[s_0, v31] H fun v32 H =>
     W.chk (fun H k => W.get v29 H k) v30 H (W.bin .add v30 v32 H fun v33 H =>
     W.indexAddr 1 v28 (.int .i64 0) H fun v34 H =>
     W.put v34 v33 H fun _ H =>
     f49.j2 Q v1 v2 H))
    (fun H => W.bin .eql v3 (.int .i64 3) H fun v35 H =>
     W.cond v35 H
     (fun H => W.fieldAddr 3 v1 H fun v36 H =>
      W.get v36 H fun v37 H =>
      W.call Tryz.prog (.func (.func 79) #[] #[]) #[v37] H fun v38 H =>
      W.lit 1 [(.int .i64 0)] 2 [(0, 1, (.int .i64 0))] H fun v39 H =>
      W.append 1 2 v38 v39 H fun v40 H =>
      W.fieldAddr 3 v1 H fun v41 H =>
      W.put v41 v40 H fun _ H =>
      f49.j3 Q v1 v2 H)
     (fun H => f49.j3 Q v1 v2 H))))
theorem f49.enter {Q : Post} {s_0 : Value} {p_1 : Value} {H : Heap} (h : f49.w Q s_0 p_1 H) : Runs Tryz.prog 49 #[s_0, p_1] H Q :=
  fn_enter (ann := [(1000009, [])]) (by kernel_rfl) Tryz.func49 rfl (by kernel_rfl) h (by kernel_rfl)

/- loop.example/g01343/spec.l09Draw -/
def f69.w (Q : Post) (s_0 : Value) (H : Heap) : Prop :=
  W.new [(.slice none 0 0), (.slice none 0 0), (.slice none 0 0), (.slice none 0 0)] 27 H fun v1 H =>
  W.call Tryz.prog (.func (.func 46) #[] #[]) #[s_0] H fun v2 H =>
  W.call Tryz.prog (.func (.func 49) #[] #[]) #[s_0, v2] H fun v3 H =>
  W.putN 4 v1 v3 H fun _ H =>
  W.getN 4 v1 H fun v4 H => Q v4 H
theorem f69.enter {Q : Post} {s_0 : Value} {H : Heap} (h : f69.w Q s_0 H) : Runs Tryz.prog 69 #[s_0] H Q :=
  fn_enter (ann := []) (by kernel_rfl) Tryz.func69 rfl (by kernel_rfl) h (by kernel_rfl)

/- loop.example/g01343/spec.DrawDualProgram -/
def f6.j1 (Q : Post) (v4 : Value) (v2 : Value) (v1 : Value) (H : Heap) : Prop :=
  W.getN 4 v4 H fun v12 H =>
  W.call Tryz.prog (.func (.func 49) #[] #[]) #[v2, v12] H fun v13 H =>
  W.putN 4 v1 v13 H fun _ H =>
  W.getN 4 v1 H fun v14 H => Q v14 H
def f6.w (Q : Post) (code_0 : Value) (H : Heap) : Prop :=
  W.new [(.slice none 0 0), (.slice none 0 0), (.slice none 0 0), (.slice none 0 0)] 27 H fun v1 H =>
  W.call Tryz.prog (.func (.func 45) #[] #[]) #[code_0] H fun v2 H =>
  W.call Tryz.prog (.func (.func 46) #[] #[]) #[v2] H fun v3 H =>
  W.new [(.slice none 0 0), (.slice none 0 0), (.slice none 0 0), (.slice none 0 0)] 27 H fun v4 H =>
  W.putN 4 v4 v3 H fun _ H =>
  W.call Tryz.prog (.func (.func 47) #[] #[]) #[v2, (.int .i64 3)] H fun v5 H =>
  W.bin .gtr v5 (.int .i64 0) H fun v6 H =>
  W.cond v6 H
  (fun H => W.fieldAddr 1 v4 H fun v7 H =>
   W.get v7 H fun v8 H =>
   W.len v8 H fun v9 H =>
   W.call Tryz.prog (.func (.func 48) #[] #[]) #[v9] H fun v10 H =>
   W.fieldAddr 0 v4 H fun v11 H =>
   W.put v11 v10 H fun _ H =>
   f6.j1 Q v4 v2 v1 H)
  (fun H => f6.j1 Q v4 v2 v1 H)
theorem f6.enter {Q : Post} {code_0 : Value} {H : Heap} (h : f6.w Q code_0 H) : Runs Tryz.prog 6 #[code_0] H Q :=
  fn_enter (ann := []) (by kernel_rfl) Tryz.func6 rfl (by kernel_rfl) h (by kernel_rfl)

/- loop.example/g01343/spec.DrawScaleProgram -/
def f11.w (Q : Post) (code_0 : Value) (H : Heap) : Prop :=
  W.new [(.slice none 0 0), (.slice none 0 0), (.slice none 0 0), (.slice none 0 0)] 27 H fun v1 H =>
  W.call Tryz.prog (.func (.func 45) #[] #[]) #[code_0] H fun v2 H =>
  W.call Tryz.prog (.func (.func 69) #[] #[]) #[v2] H fun v3 H =>
  W.new [(.slice none 0 0), (.slice none 0 0), (.slice none 0 0), (.slice none 0 0)] 27 H fun v4 H =>
  W.putN 4 v4 v3 H fun _ H =>
  W.getN 4 v4 H fun v5 H =>
  W.lit 6 [(.int .i64 0)] 2 [(0, 1, (.int .i64 1)), (1, 1, (.int .i64 2)), (2, 1, (.int .i64 3)), (3, 1, (.int .i64 20)), (4, 1, (.int .i64 0)), (5, 1, (.int .i64 21))] H fun v6 H =>
  W.call Tryz.prog (.func (.func 70) #[] #[]) #[v2, v6] H fun v7 H =>
  W.chk (fun H k => W.getN 4 v4 H k) v5 H (W.putN 4 v1 v5 H fun _ H =>
  W.getN 4 v1 H fun v8 H => Q (.tuple #[v8, v7]) H)
theorem f11.enter {Q : Post} {code_0 : Value} {H : Heap} (h : f11.w Q code_0 H) : Runs Tryz.prog 11 #[code_0] H Q :=
  fn_enter (ann := [(1000003, [])]) (by kernel_rfl) Tryz.func11 rfl (by kernel_rfl) h (by kernel_rfl)

/- loop.example/g01343/spec.DrawAddPrograms -/
def f15.l1 (Q : Post) (v7 : Value) (v5 : Value) (v3 : Value) (v1 : Value) (v2 : Value) (I1 : St [7] → Heap → Prop) (k_7 : Value) (H : Heap) : Prop :=
  W.bin .lss k_7 (.int .i64 6) H fun v8 H =>
  W.guarded v8 true (fun H k => W.fieldAddr 1 v7 H k) H fun v9 H =>
  W.guarded v8 true (fun H k => W.get v9 H k) H fun v10 H =>
  W.guarded v8 true (fun H k => W.len v10 H k) H fun v11 H =>
  W.guarded v8 true (fun H k => W.fieldAddr 1 v5 H k) H fun v12 H =>
  W.guarded v8 true (fun H k => W.get v12 H k) H fun v13 H =>
  W.guarded v8 true (fun H k => W.len v13 H k) H fun v14 H =>
  W.guarded v8 true (fun H k => W.bin .neq v11 v14 H k) H fun v15 H =>
  W.pick v8 v15 (.bool false) H fun v16 H =>
  W.cond v16 H
  (fun H => W.call Tryz.prog (.func (.func 46) #[] #[]) #[v3] H fun v17 H =>
   W.putN 4 v7 v17 H fun _ H =>
   W.bin .add k_7 (.int .i64 1) H fun v18 H =>
   I1 (v18, ()) H)
  (fun H => W.getN 4 v5 H fun v19 H =>
   (fun Hk2 => W.call Tryz.prog (.func (.func 49) #[] #[]) #[v3, v19] H fun v20 H =>
   W.getN 4 v7 H fun v21 H =>
   W.chk (fun H k => W.getN 4 v7 H k) v21 Hk2 (W.call Tryz.prog (.func (.func 49) #[] #[]) #[v3, v21] H fun v22 H =>
   W.putN 4 v1 v20 H fun _ H =>
   W.putN 4 v2 v22 H fun _ H =>
   W.getN 4 v1 H fun v23 H => W.getN 4 v2 H fun v24 H => Q (.tuple #[v23, v24]) H)) H)
def f15.w (Q : Post) (code_0 : Value) (H : Heap) : Prop :=
  W.new [(.slice none 0 0), (.slice none 0 0), (.slice none 0 0), (.slice none 0 0)] 27 H fun v1 H =>
  W.new [(.slice none 0 0), (.slice none 0 0), (.slice none 0 0), (.slice none 0 0)] 27 H fun v2 H =>
  W.call Tryz.prog (.func (.func 45) #[] #[]) #[code_0] H fun v3 H =>
  W.call Tryz.prog (.func (.func 46) #[] #[]) #[v3] H fun v4 H =>
  W.new [(.slice none 0 0), (.slice none 0 0), (.slice none 0 0), (.slice none 0 0)] 27 H fun v5 H =>
  W.putN 4 v5 v4 H fun _ H =>
  W.call Tryz.prog (.func (.func 46) #[] #[]) #[v3] H fun v6 H =>
  W.new [(.slice none 0 0), (.slice none 0 0), (.slice none 0 0), (.slice none 0 0)] 27 H fun v7 H =>
  W.putN 4 v7 v6 H fun _ H =>
  W.loop (S := St [7]) (fun I1 s H => f15.l1 Q v7 v5 v3 v1 v2 I1 s.1 H) ((.int .i64 0), ()) H
theorem f15.enter {Q : Post} {code_0 : Value} {H : Heap} (h : f15.w Q code_0 H) : Runs Tryz.prog 15 #[code_0] H Q :=
  fn_enter (ann := [(5, [7]), (1000008, [])]) (by kernel_rfl) Tryz.func15 rfl (by kernel_rfl) h (by kernel_rfl)

/- loop.example/g01343/spec.DrawLeastAlong -/
def f18.j1 (Q : Post) (v8 : Value) (v2 : Value) (v1 : Value) (x_7 : Value) (u_8' : Value) (H : Heap) : Prop :=
  W.getN 4 v8 H fun v25 H =>
  W.call Tryz.prog (.func (.func 49) #[] #[]) #[v2, v25] H fun v26 H =>
  W.putN 4 v1 v26 H fun _ H =>
  W.getN 4 v1 H fun v27 H => Q (.tuple #[v27, x_7, u_8']) H
def f18.j2 (Q : Post) (v8 : Value) (v2 : Value) (v1 : Value) (x_7 : Value) (u_8'' : Value) (H : Heap) : Prop :=
  f18.j1 Q v8 v2 v1 x_7 u_8'' H
def f18.l1 (Q : Post) (v8 : Value) (v2 : Value) (v7 : Value) (v1 : Value) (I1 : St [7, 8, 10] → Heap → Prop) (x_7 : Value) (u_8 : Value) (i_10 : Value) (H : Heap) : Prop :=
  W.fieldAddr 1 v8 H fun v9 H =>
  W.get v9 H fun v10 H =>
  W.len v10 H fun v11 H =>
  W.bin .lss i_10 v11 H fun v12 H =>
  W.cond v12 H
  (fun H => W.call Tryz.prog (.func (.func 84) #[] #[]) #[v2, v7] H fun v13 H =>
   W.lit 1 [(.int .i64 0)] 2 [(0, 1, v13)] H fun v14 H =>
   W.append 1 2 x_7 v14 H fun v15 H =>
   W.call Tryz.prog (.func (.func 84) #[] #[]) #[v2, v7] H fun v16 H =>
   W.lit 1 [(.int .i64 0)] 2 [(0, 1, v16)] H fun v17 H =>
   W.append 1 2 u_8 v17 H fun v18 H =>
   W.bin .add i_10 (.int .i64 1) H fun v19 H =>
   I1 (v15, v18, v19, ()) H)
  (fun H => W.call Tryz.prog (.func (.func 47) #[] #[]) #[v2, (.int .i64 20)] H fun v20 H =>
   W.bin .eql v20 (.int .i64 0) H fun v21 H =>
   W.cond v21 H
   (fun H => W.lit 2 [(.int .i64 0)] 2 [(0, 1, (.int .i64 101)), (1, 1, (.int .i64 (-101)))] H fun v22 H =>
    W.call Tryz.prog (.func (.func 70) #[] #[]) #[v2, v22] H fun v23 H =>
    W.indexAddr 1 x_7 (.int .i64 0) H fun v24 H =>
    W.put v24 v23 H fun _ H =>
    f18.j1 Q v8 v2 v1 x_7 u_8 H)
   (fun H => W.bin .eql v20 (.int .i64 1) H fun v28 H =>
    W.cond v28 H
    (fun H => W.lit 1 [(.int .i64 0)] 2 [(0, 1, (.int .i64 0))] H fun v29 H =>
     W.append 1 2 u_8 v29 H fun v30 H =>
     f18.j2 Q v8 v2 v1 x_7 v30 H)
    (fun H => f18.j2 Q v8 v2 v1 x_7 u_8 H)))
def f18.w (Q : Post) (code_0 : Value) (H : Heap) : Prop :=
  W.new [(.slice none 0 0), (.slice none 0 0), (.slice none 0 0), (.slice none 0 0)] 27 H fun v1 H =>
  W.call Tryz.prog (.func (.func 45) #[] #[]) #[code_0] H fun v2 H =>
  W.call Tryz.prog (.func (.func 46) #[] #[]) #[v2] H fun v3 H =>
  W.lit 0 [(.int .i64 0)] 2 [] H fun v4 H =>
  W.lit 0 [(.int .i64 0)] 2 [] H fun v5 H =>
  W.lit 3 [(.int .i64 0)] 2 [(0, 1, (.int .i64 2)), (1, 1, (.int .i64 9)), (2, 1, (.int .i64 100))] H fun v6 H =>
  W.call Tryz.prog (.func (.func 70) #[] #[]) #[v2, v6] H fun v7 H =>
  W.new [(.slice none 0 0), (.slice none 0 0), (.slice none 0 0), (.slice none 0 0)] 27 H fun v8 H =>
  W.putN 4 v8 v3 H fun _ H =>
  W.loop (S := St [7, 8, 10]) (fun I1 s H => f18.l1 Q v8 v2 v7 v1 I1 s.1 s.2.1 s.2.2.1 H) (v4, v5, (.int .i64 0), ()) H
theorem f18.enter {Q : Post} {code_0 : Value} {H : Heap} (h : f18.w Q code_0 H) : Runs Tryz.prog 18 #[code_0] H Q :=
  fn_enter (ann := [(4, [7, 8, 10])]) (by kernel_rfl) Tryz.func18 rfl (by kernel_rfl) h (by kernel_rfl)

/- loop.example/g01343/spec.DrawMinimumOf -/
/- loop.example/g01343/spec.DrawProgramProblem -/
/-- A program of a size that is not too large. -/
def SmallG (p : Prg) : Prop := p.1.length ≤ 6 ∧ (∀ r ∈ p.1, r.length ≤ 6) ∧ p.2.1.length ≤ 6 ∧ p.2.2.1.length ≤ 6 ∧ (∀ r ∈ p.2.2.1, r.length ≤ 6) ∧ p.2.2.2.length ≤ 6

theorem SmallG.w {p : Prg} (h : SmallG p) : wPrg p ≤ 1048576 := by
  obtain ⟨h1, h2, h3, h4, h5, h6⟩ := h
  have e1 := szl_le (w := List.length) (c := 6) p.1 h2
  have e2 := szl_le (w := List.length) (c := 6) p.2.2.1 h5
  simp only [szp, wl]
  omega

/-- What is drawn: n variables, m rows. -/
structure IsNM (n m : Nat) (p : Prg) : Prop where
  n1 : 1 ≤ n ∧ n ≤ 3
  m1 : m ≤ 3
  d : p.1.length = n
  dr : ∀ r ∈ p.1, r.length = n ∧ ∀ x ∈ r, x.natAbs ≤ 100
  c : p.2.1.length = n
  a : p.2.2.1.length = m
  ar : ∀ r ∈ p.2.2.1, r.length = n
  b : p.2.2.2.length = m

theorem IsNM.small {n m : Nat} {p : Prg} (h : IsNM n m p) : SmallG p := by
  obtain ⟨h1, h2, h3, h4, h5, h6, h7, h8⟩ := h
  exact ⟨by omega, fun r hr => by have := (h4 r hr).1; omega, by omega, by omega, fun r hr => by have := h7 r hr; omega, by omega⟩

section
variable {H0 H : Heap} {L : List (Atom H0.next)} {Q : Post} {b i : Nat} {vc : Value} {code : List Int}

theorem split4 {u1 u2 u3 u4 : Value} {p : Prg} (h : Ab.Loc H0 (.data RPrg [u1, u2, u3, u4] p :: L) H) : Ab.Loc H0 (.data RSS [u1] p.1 :: .data RS [u2] p.2.1 :: .data RSS [u3] p.2.2.1 :: .data RS [u4] p.2.2.2 :: L) H := by
  have h := h.unpair (r := RSS) (s := Rd.pair RS (Rd.pair RSS RS)) (c1 := [u1]) (c2 := [u2, u3, u4]) (x := p.1) (y := p.2) rfl
  have h : Ab.Loc H0 (.data (Rd.pair RS (Rd.pair RSS RS)) [u2, u3, u4] p.2 :: .data RSS [u1] p.1 :: L) H := h.front 1 rfl
  have h := h.unpair (r := RS) (s := Rd.pair RSS RS) (c1 := [u2]) (c2 := [u3, u4]) (x := p.2.1) (y := p.2.2) rfl
  have h : Ab.Loc H0 (.data (Rd.pair RSS RS) [u3, u4] p.2.2 :: .data RS [u2] p.2.1 :: .data RSS [u1] p.1 :: L) H := h.front 1 rfl
  have h := h.unpair (r := RSS) (s := RS) (c1 := [u3]) (c2 := [u4]) (x := p.2.2.1) (y := p.2.2.2) rfl
  have h : Ab.Loc H0 (.data RS [u2] p.2.1 :: .data RSS [u3] p.2.2.1 :: .data RS [u4] p.2.2.2 :: .data RSS [u1] p.1 :: L) H := h.front 2 rfl
  exact h.front 3 rfl

theorem join4 {u1 u2 u3 u4 : Value} {p : Prg} (h : Ab.Loc H0 (.data RSS [u1] p.1 :: .data RS [u2] p.2.1 :: .data RSS [u3] p.2.2.1 :: .data RS [u4] p.2.2.2 :: L) H) : Ab.Loc H0 (.data RPrg [u1, u2, u3, u4] p :: L) H := by
  have h := h.pair (i := 2) (j := 3) rfl rfl (by decide)
  have h : Ab.Loc H0 (.data RSS [u1] p.1 :: .data RS [u2] p.2.1 :: .data (Rd.pair RSS RS) [u3, u4] p.2.2 :: .emp :: L) H := h
  have h := h.pair (i := 1) (j := 2) rfl rfl (by decide)
  have h : Ab.Loc H0 (.data RSS [u1] p.1 :: .data (Rd.pair RS (Rd.pair RSS RS)) [u2, u3, u4] p.2 :: .emp :: .emp :: L) H := h
  have h := h.pair (i := 0) (j := 1) rfl rfl (by decide)
  have h : Ab.Loc H0 (.data RPrg [u1, u2, u3, u4] p :: .emp :: .emp :: .emp :: L) H := h
  exact ((h.cut 1).cut 1).cut 1

abbrev nil4 : List Value := [.slice none 0 0, .slice none 0 0, .slice none 0 0, .slice none 0 0]

abbrev noPrg : Prg := ([], [], [], [])

theorem nilPr (h : Ab.Loc H0 L H) : Ab.Loc H0 (.data RPrg nil4 noPrg :: L) H := by
  have h := (h.nilG Rd.int 2).asData (i := 0) rfl
  have h : Ab.Loc H0 (.data RS [.slice none 0 0] [] :: L) H := h
  have h := (h.nilG RS 25).asData (i := 0) rfl
  have h : Ab.Loc H0 (.data RSS [.slice none 0 0] [] :: .data RS [.slice none 0 0] [] :: L) H := h
  have h := (h.nilG Rd.int 2).asData (i := 0) rfl
  have h : Ab.Loc H0 (.data RS [.slice none 0 0] [] :: .data RSS [.slice none 0 0] [] :: .data RS [.slice none 0 0] [] :: L) H := h
  have h := (h.nilG RS 25).asData (i := 0) rfl
  have h : Ab.Loc H0 (.data RSS [.slice none 0 0] noPrg.1 :: .data RS [.slice none 0 0] noPrg.2.1 :: .data RSS [.slice none 0 0] noPrg.2.2.1 :: .data RS [.slice none 0 0] noPrg.2.2.2 :: L) H := h
  exact join4 (p := noPrg) h

theorem cells4 {u1 u2 u3 u4 : Value} {p : Prg} (h : Ab.Loc H0 (.data RSS [u1] p.1 :: .data RS [u2] p.2.1 :: .data RSS [u3] p.2.2.1 :: .data RS [u4] p.2.2.2 :: L) H) : [u1, u2, u3, u4].all isCell = true := by
  have k1 := (h.rd (cs := [u1]) (r := RSS) (x := p.1)).cell1
  have k2 := (h.rd (cs := [u2]) (r := RS) (x := p.2.1)).cell1
  have k3 := (h.rd (cs := [u3]) (r := RSS) (x := p.2.2.1)).cell1
  have k4 := (h.rd (cs := [u4]) (r := RS) (x := p.2.2.2)).cell1
  simp [k1, k2, k3, k4]

/-- The rows of A, and B. -/
theorem drawPr_end {n m b10 b1 : Nat} {u1 u2 : Value} {D : List (List Int)} {C : List Int} (h : Ab.Loc H0 (.box b10 [u1, u2, .slice none 0 0, .slice none 0 0] :: .grow RS 25 u1 D :: .grow Rd.int 2 u2 C :: .box b1 nil4 :: L) H)
    (hi : L[i]? = some (.src b vc code)) (hn : 1 ≤ n ∧ n ≤ 3) (hm : m ≤ 3) (hD : D.length = n) (hDr : ∀ r ∈ D, r.length = n ∧ ∀ x ∈ r, x.natAbs ≤ 100) (hC : C.length = n)
    (hQ : ∀ H' u1 u2 u3 u4 p n m, Ab.Loc H0 (.data RPrg [u1, u2, u3, u4] p :: L) H' → IsNM n m p → Q (.agg #[u1, u2, u3, u4]) H') :
    W.loop (S := St [13]) (fun I4 s H => f46.l4 Q (.int .i64 (m : Nat)) (.int .i64 (n : Nat)) (pt b 0) (pt b10 0) (pt b1 0) I4 s.1 H) ((.int .i64 0), ()) H := by
  have h : Ab.Loc H0 (.box b10 [u1, u2, .slice none 0 0, .slice none 0 0] :: .grow RS 25 (.slice none 0 0) [] :: .grow Rd.int 2 (.slice none 0 0) [] :: .grow RS 25 u1 D :: .grow Rd.int 2 u2 C :: .box b1 nil4 :: L) H := ((h.nilG Rd.int 2).nilG RS 25).front 2 rfl
  refine W.for_rule m (fun y st H => ∃ u3 u4 A B, st = (.int .i64 (y : Nat), ()) ∧ A.length = y ∧ (∀ r ∈ A, r.length = n) ∧ B.length = y ∧ Ab.Loc H0 (.box b10 [u1, u2, u3, u4] :: .grow RS 25 u3 A :: .grow Rd.int 2 u4 B :: .grow RS 25 u1 D :: .grow Rd.int 2 u2 C :: .box b1 nil4 :: L) H) ⟨_, _, [], [], rfl, rfl, (fun r hr => by cases hr), rfl, h⟩ ?_
  rintro y st H J hy ⟨u3, u4, A, B, rfl, hA, hAr, hB, h⟩ hJ
  refine Wi.lssC (fun hlt => Wi.tru ?_) fun hge => Wi.fls ?_
  · have hym : y < m := by omega
    have hI : I64 ((y : Int) + 1) := by unfold I64; omega
    refine Wl.lit0 (ty := 2) Rd.int rfl h fun H w h => ?_
    refine W.for_rule n (fun k st H => ∃ w r, st = (w, .int .i64 (k : Nat), ()) ∧ r.length = k ∧ Ab.Loc H0 (.grow Rd.int 2 w r :: .box b10 [u1, u2, u3, u4] :: .grow RS 25 u3 A :: .grow Rd.int 2 u4 B :: .grow RS 25 u1 D :: .grow Rd.int 2 u2 C :: .box b1 nil4 :: L) H) ⟨w, [], rfl, rfl, h⟩ ?_
    rintro k st H J2 hk ⟨w, r, rfl, hr, h⟩ hJ2
    refine Wi.lssC (fun hlt2 => Wi.tru ?_) fun hge2 => Wi.fls ?_
    · have hkn : k < n := by omega
      refine Wl.litN [1, 3, 20] rfl (by decide) (by simp [I64]) rfl h fun H vl h => Wi.call (fn70 (i := i + 8) h (by simpa using hi) (fun H h => h.rd (cs := [vl])) (by decide) fun H t h ht => ?_)
      have ht : 0 ≤ t ∧ t ≤ 100 := by simp at ht; omega
      have h := h.tl
      refine Wi.call (fn84 (i := i + 7) h (by simpa using hi) ht fun H z h hz => ?_)
      refine Wl.pushP (r := Rd.int) (x := z) (i := 0) rfl rfl rfl (fun _ => ⟨rfl, rfl, by unfold I64; omega⟩) h (by omega) fun H w' h => ?_
      have h : Ab.Loc H0 (.grow Rd.int 2 w' (r ++ [z]) :: .box b10 [u1, u2, u3, u4] :: .grow RS 25 u3 A :: .grow Rd.int 2 u4 B :: .grow RS 25 u1 D :: .grow Rd.int 2 u2 C :: .box b1 nil4 :: L) H := h
      exact Wi.add (by unfold I64; omega) (hJ2 _ _ hkn ⟨w', r ++ [z], rfl, by simp; omega, h⟩)
    · have hkn : k = n := by omega
      have h := h.asData (i := 0) rfl
      have h : Ab.Loc H0 (.data RS [w] r :: .box b10 [u1, u2, u3, u4] :: .grow RS 25 u3 A :: .grow Rd.int 2 u4 B :: .grow RS 25 u1 D :: .grow Rd.int 2 u2 C :: .box b1 nil4 :: L) H := h
      have hcu := (h.rd (cs := [w]) (r := RS)).one
      refine Wi.fieldAddr (Wl.get (b := b10) (o := 2) h rfl ?_)
      refine Wl.pushO (r := RS) (u := w) (x := r) (i := 2) (j := 0) (L2 := fun v' => .data RS [w] r :: .box b10 [u1, u2, u3, u4] :: .grow RS 25 v' (A ++ [r]) :: .grow Rd.int 2 u4 B :: .grow RS 25 u1 D :: .grow Rd.int 2 u2 C :: .box b1 nil4 :: L) (L3 := fun v' => .emp :: .box b10 [u1, u2, u3, u4] :: .grow RS 25 v' (A ++ [r]) :: .grow Rd.int 2 u4 B :: .grow RS 25 u1 D :: .grow Rd.int 2 u2 C :: .box b1 nil4 :: L) rfl h (by decide) hcu (by omega) fun H u3' h => ?_
      have h : Ab.Loc H0 (.box b10 [u1, u2, u3, u4] :: .grow RS 25 u3' (A ++ [r]) :: .grow Rd.int 2 u4 B :: .grow RS 25 u1 D :: .grow Rd.int 2 u2 C :: .box b1 nil4 :: L) H := h.tl
      have k3 := (h.rd (cs := [u3']) (r := RSS)).cell1
      refine Wi.fieldAddr (Wl.put (b := b10) (o := 2) (i := 0) h k3 (by simp) fun H h => Wi.fieldAddr (Wl.get (b := b10) (o := 3) h rfl ?_))
      have h : Ab.Loc H0 (.box b10 [u1, u2, u3', u4] :: .grow RS 25 u3' (A ++ [r]) :: .grow Rd.int 2 u4 B :: .grow RS 25 u1 D :: .grow Rd.int 2 u2 C :: .box b1 nil4 :: L) H := h
      refine Wl.litN [3, 9, 100] rfl (by decide) (by simp [I64]) rfl h fun H vl h => Wi.call (fn70 (i := i + 7) h (by simpa using hi) (fun H h => h.rd (cs := [vl])) (by decide) fun H t h ht => ?_)
      have ht : 0 ≤ t ∧ t ≤ 100 := by simp at ht; omega
      have h := h.tl
      refine Wi.chk (Wl.get (b := b10) (o := 3) h rfl ⟨rfl, rfl⟩) (Wi.call (fn84 (i := i + 6) h (by simpa using hi) ht fun H z h hz => ?_))
      refine Wi.chk (Wl.get (b := b10) (o := 3) h rfl ⟨rfl, rfl⟩) (Wl.pushP (r := Rd.int) (x := z) (i := 2) rfl rfl rfl (fun _ => ⟨rfl, rfl, by unfold I64; omega⟩) h (by omega) fun H u4' h => ?_)
      have h : Ab.Loc H0 (.box b10 [u1, u2, u3', u4] :: .grow RS 25 u3' (A ++ [r]) :: .grow Rd.int 2 u4' (B ++ [z]) :: .grow RS 25 u1 D :: .grow Rd.int 2 u2 C :: .box b1 nil4 :: L) H := h
      have k4 := (h.rd (cs := [u4']) (r := RS)).cell1
      refine Wi.fieldAddr (Wl.put (b := b10) (o := 3) (i := 0) h k4 (by simp) fun H h => Wi.add hI (hJ _ _ hym ⟨u3', u4', A ++ [r], B ++ [z], rfl, by simp; omega, fun q hq => ?_, by simp; omega, h⟩))
      rcases List.mem_append.1 hq with hq | hq
      · exact hAr q hq
      · rw [List.mem_singleton] at hq; rw [hq]; omega
  · have hym : y = m := by omega
    have h := (((h.asData (i := 1) rfl).asData (i := 2) rfl).asData (i := 3) rfl).asData (i := 4) rfl
    have h : Ab.Loc H0 (.box b10 [u1, u2, u3, u4] :: .data RSS [u3] A :: .data RS [u4] B :: .data RSS [u1] D :: .data RS [u2] C :: .box b1 nil4 :: L) H := h
    have h : Ab.Loc H0 (.data RSS [u1] D :: .data RS [u2] C :: .data RSS [u3] A :: .data RS [u4] B :: .box b10 [u1, u2, u3, u4] :: .box b1 nil4 :: L) H := (((h.front 2 rfl).front 2 rfl).front 4 rfl).front 4 rfl
    have kc := cells4 (p := (D, C, A, B)) h
    refine Wl.getA (b := b10) h rfl (Wl.putA (b := b1) (i := 5) h rfl rfl kc fun H h => Wl.getA (b := b1) h rfl ?_)
    have h : Ab.Loc H0 (.data RSS [u1] D :: .data RS [u2] C :: .data RSS [u3] A :: .data RS [u4] B :: .box b10 [u1, u2, u3, u4] :: .box b1 [u1, u2, u3, u4] :: L) H := h
    have h := join4 (p := (D, C, A, B)) h
    exact hQ _ u1 u2 u3 u4 (D, C, A, B) n m ((h.cut 1).cut 1) ⟨hn, hm, hD, hDr, hC, by show A.length = m; omega, hAr, by show B.length = m; omega⟩

theorem fn46 (h : Ab.Loc H0 L H) (hi : L[i]? = some (.src b vc code)) (hQ : ∀ H' u1 u2 u3 u4 p n m, Ab.Loc H0 (.data RPrg [u1, u2, u3, u4] p :: L) H' → IsNM n m p → Q (.agg #[u1, u2, u3, u4]) H') :
    Runs Tryz.prog 46 #[pt b 0] H Q := by
  refine f46.enter ?_
  unfold f46.w
  refine Wl.new h fun H b1 h => Wi.call (fn47 (i := i + 1) h (by simpa using hi) fun H x h hx hx3 => ?_)
  have hx3 := hx3 (by decide)
  obtain ⟨n, hn⟩ : ∃ n : Nat, 1 + x = (n : Int) := ⟨(1 + x).toNat, by omega⟩
  refine Wi.add (by unfold I64; omega) ?_
  rw [hn]
  refine Wi.sub (by unfold I64; omega) (Wi.min2 ?_)
  have hmn : 0 ≤ (if (3 : Int) < 5 - (n : Nat) then (3 : Int) else 5 - (n : Nat)) ∧ (if (3 : Int) < 5 - (n : Nat) then (3 : Int) else 5 - (n : Nat)) ≤ 3 := by split <;> omega
  generalize (if (3 : Int) < 5 - (n : Nat) then (3 : Int) else 5 - (n : Nat)) = mx at *
  refine Wi.add (by unfold I64; omega) (Wi.call (fn47 (i := i + 1) h (by simpa using hi) fun H y h hy hy3 => ?_))
  have hy3 := hy3 (by omega)
  obtain ⟨m, rfl⟩ : ∃ m : Nat, y = (m : Int) := ⟨y.toNat, by omega⟩
  have hm : m ≤ 3 := by omega
  have hn3 : 1 ≤ n ∧ n ≤ 3 := by omega
  clear hn hx hx3 hy hy3 hmn
  refine Wi.build (cells := nil4) rfl (Wi.call (fn47 (i := i + 1) h (by simpa using hi) fun H kind h hk hk5 => ?_))
  refine Wl.new h fun H b10 h => Wl.putA (b := b10) h rfl rfl rfl fun H h => ?_
  have h : Ab.Loc H0 (.box b10 nil4 :: .box b1 nil4 :: L) H := h
  refine Wl.litN [1, 2] rfl (by decide) (by simp [I64]) rfl h fun H vl h => Wi.call (fn70 (i := i + 3) h (by simpa using hi) (fun H h => h.rd (cs := [vl])) (by decide) fun H t h ht => ?_)
  have ht : 0 ≤ t ∧ t ≤ 2 := by simp at ht; omega
  have h := h.tl
  refine Wi.call (fn105 (i := i + 2) h (by simpa using hi) (by omega) ⟨ht.1, by omega⟩ fun H u base h hbl hbs => ?_)
  have hbe : ∀ a (ha : a < base.length), base[a].length = n ∧ ∀ z ∈ base[a], z.natAbs ≤ 2 := fun a ha => ⟨(hbs _ (List.getElem_mem ha)).1, fun z hz => by have := (hbs _ (List.getElem_mem ha)).2 z hz; omega⟩
  have h : Ab.Loc H0 (.box b10 nil4 :: .grow RS 25 (.slice none 0 0) [] :: .grow Rd.int 2 (.slice none 0 0) [] :: .data RSS [u] base :: .box b1 nil4 :: L) H := ((h.nilG Rd.int 2).nilG RS 25).front 3 rfl
  refine W.for_rule n (fun x st H => ∃ u1 u2 D C, st = (.int .i64 (x : Nat), ()) ∧ D.length = x ∧ (∀ r ∈ D, r.length = n ∧ ∀ x ∈ r, x.natAbs ≤ 100) ∧ C.length = x ∧ Ab.Loc H0 (.box b10 [u1, u2, .slice none 0 0, .slice none 0 0] :: .grow RS 25 u1 D :: .grow Rd.int 2 u2 C :: .data RSS [u] base :: .box b1 nil4 :: L) H) ⟨_, _, [], [], rfl, rfl, (fun r hr => by cases hr), rfl, h⟩ ?_
  rintro x st H J hx ⟨u1, u2, D, C, rfl, hD, hDr, hC, h⟩ hJ
  refine Wi.lssC (fun hlt => Wi.tru ?_) fun hge => Wi.fls ?_
  · have hxn : x < n := by omega
    have hI : I64 ((x : Int) + 1) := by unfold I64; omega
    refine Wl.lit0 (ty := 2) Rd.int rfl h fun H w h => ?_
    refine W.for_rule n (fun k st H => ∃ w r, st = (w, .int .i64 (k : Nat), ()) ∧ r.length = k ∧ (∀ z ∈ r, z.natAbs ≤ 100) ∧ Ab.Loc H0 (.grow Rd.int 2 w r :: .box b10 [u1, u2, .slice none 0 0, .slice none 0 0] :: .grow RS 25 u1 D :: .grow Rd.int 2 u2 C :: .data RSS [u] base :: .box b1 nil4 :: L) H) ⟨w, [], rfl, rfl, (fun r hr => by cases hr), h⟩ ?_
    rintro k st H J2 hk2 ⟨w, r, rfl, hr, hrb, h⟩ hJ2
    have hB : Has RSS H [u] base := h.rd (cs := [u])
    refine Wi.lssC (fun hlt2 => Wi.tru ?_) fun hge2 => Wi.fls ?_
    · have hkn : k < n := by omega
      have hxb : x < base.length := by omega
      have hkb : k < base.length := by omega
      have fin : ∀ sum : Int, sum.natAbs ≤ 100 → f46.j1 Q w (.int .i64 (k : Nat)) J2 (.int .i64 sum) H := fun sum hs => by
        unfold f46.j1
        refine Wl.pushP (r := Rd.int) (x := sum) (i := 0) rfl rfl rfl (fun _ => ⟨rfl, rfl, by unfold I64; omega⟩) h (by omega) fun H w' h => ?_
        have h : Ab.Loc H0 (.grow Rd.int 2 w' (r ++ [sum]) :: .box b10 [u1, u2, .slice none 0 0, .slice none 0 0] :: .grow RS 25 u1 D :: .grow Rd.int 2 u2 C :: .data RSS [u] base :: .box b1 nil4 :: L) H := h
        refine Wi.add (by unfold I64; omega) (hJ2 _ _ hkn ⟨w', r ++ [sum], rfl, by simp; omega, fun q hq => ?_, h⟩)
        rcases List.mem_append.1 hq with hq | hq
        · exact hrb q hq
        · rw [List.mem_singleton] at hq; rw [hq]; exact hs
      refine W.for_rule n (fun j st H2 => ∃ sum : Int, H2 = H ∧ st = (.int .i64 sum, .int .i64 (j : Nat), ()) ∧ sum.natAbs ≤ 4 * j) ⟨0, rfl, rfl, by decide⟩ ?_
      rintro j st H2 J3 hj ⟨sum, rfl, rfl, hs⟩ hJ3
      refine Wi.lssC (fun hlt3 => Wi.tru ?_) fun hge3 => Wi.fls ?_
      · have hjn : j < n := by omega
        obtain ⟨g1, g2⟩ := hbe x hxb
        obtain ⟨g3, g4⟩ := hbe k hkb
        refine Wl.at1H rfl hB hxb fun p1 hp1 => Wl.atIntH hp1 (i := j) (by omega) fun _ => Wl.at1H rfl hB hkb fun p2 hp2 => Wl.atIntH hp2 (i := j) (by omega) fun _ => ?_
        have m1 := g2 _ (List.getElem_mem (show j < base[x].length by omega))
        have m2 := g4 _ (List.getElem_mem (show j < base[k].length by omega))
        have m3 : (base[x][j] * base[k][j]).natAbs ≤ 2 * 2 := by rw [Int.natAbs_mul]; exact Nat.mul_le_mul m1 m2
        exact Wi.mul (by unfold I64; omega) (Wi.add (by unfold I64; omega) (Wi.add (by unfold I64; omega) (hJ3 _ _ hjn ⟨_, rfl, rfl, by omega⟩)))
      · refine Wi.eqlC (fun _ => Wi.tru (fin 0 (by decide))) fun _ => Wi.fls (Wi.eqlC (fun _ => Wi.tru ?_) fun _ => Wi.fls ?_)
        · obtain ⟨g1, g2⟩ := hbe x hxb
          obtain ⟨g3, g4⟩ := hbe k hkb
          refine Wl.at1H rfl hB hxb fun p1 hp1 => Wl.atIntH hp1 (i := k) (by omega) fun _ => Wl.at1H rfl hB hkb fun p2 hp2 => Wl.atIntH hp2 (i := x) (by omega) fun _ => ?_
          have m1 := g2 _ (List.getElem_mem (show k < base[x].length by omega))
          have m2 := g4 _ (List.getElem_mem (show x < base[k].length by omega))
          refine Wi.add (by unfold I64; omega) ?_
          unfold f46.j2
          exact fin _ (by omega)
        · unfold f46.j2
          exact fin _ (by omega)
    · have hkn : k = n := by omega
      have h := h.asData (i := 0) rfl
      have h : Ab.Loc H0 (.data RS [w] r :: .box b10 [u1, u2, .slice none 0 0, .slice none 0 0] :: .grow RS 25 u1 D :: .grow Rd.int 2 u2 C :: .data RSS [u] base :: .box b1 nil4 :: L) H := h
      have hcu := (h.rd (cs := [w]) (r := RS)).one
      refine Wi.fieldAddr (Wl.get (b := b10) (o := 0) h rfl ?_)
      refine Wl.pushO (r := RS) (u := w) (x := r) (i := 2) (j := 0) (L2 := fun v' => .data RS [w] r :: .box b10 [u1, u2, .slice none 0 0, .slice none 0 0] :: .grow RS 25 v' (D ++ [r]) :: .grow Rd.int 2 u2 C :: .data RSS [u] base :: .box b1 nil4 :: L) (L3 := fun v' => .emp :: .box b10 [u1, u2, .slice none 0 0, .slice none 0 0] :: .grow RS 25 v' (D ++ [r]) :: .grow Rd.int 2 u2 C :: .data RSS [u] base :: .box b1 nil4 :: L) rfl h (by decide) hcu (by omega) fun H u1' h => ?_
      have h : Ab.Loc H0 (.box b10 [u1, u2, .slice none 0 0, .slice none 0 0] :: .grow RS 25 u1' (D ++ [r]) :: .grow Rd.int 2 u2 C :: .data RSS [u] base :: .box b1 nil4 :: L) H := h.tl
      have k3 := (h.rd (cs := [u1']) (r := RSS)).cell1
      refine Wi.fieldAddr (Wl.put (b := b10) (o := 0) (i := 0) h k3 (by simp) fun H h => Wi.fieldAddr (Wl.get (b := b10) (o := 1) h rfl ?_))
      have h : Ab.Loc H0 (.box b10 [u1', u2, .slice none 0 0, .slice none 0 0] :: .grow RS 25 u1' (D ++ [r]) :: .grow Rd.int 2 u2 C :: .data RSS [u] base :: .box b1 nil4 :: L) H := h
      refine Wl.litN [3, 9, 100] rfl (by decide) (by simp [I64]) rfl h fun H vl h => Wi.call (fn70 (i := i + 6) h (by simpa using hi) (fun H h => h.rd (cs := [vl])) (by decide) fun H t h ht => ?_)
      have ht : 0 ≤ t ∧ t ≤ 100 := by simp at ht; omega
      have h := h.tl
      refine Wi.chk (Wl.get (b := b10) (o := 1) h rfl ⟨rfl, rfl⟩) (Wi.call (fn84 (i := i + 5) h (by simpa using hi) ht fun H z h hz => ?_))
      refine Wi.chk (Wl.get (b := b10) (o := 1) h rfl ⟨rfl, rfl⟩) (Wl.pushP (r := Rd.int) (x := z) (i := 2) rfl rfl rfl (fun _ => ⟨rfl, rfl, by unfold I64; omega⟩) h (by omega) fun H u2' h => ?_)
      have h : Ab.Loc H0 (.box b10 [u1', u2, .slice none 0 0, .slice none 0 0] :: .grow RS 25 u1' (D ++ [r]) :: .grow Rd.int 2 u2' (C ++ [z]) :: .data RSS [u] base :: .box b1 nil4 :: L) H := h
      have k4 := (h.rd (cs := [u2']) (r := RS)).cell1
      refine Wi.fieldAddr (Wl.put (b := b10) (o := 1) (i := 0) h k4 (by simp) fun H h => Wi.add hI (hJ _ _ hxn ⟨u1', u2', D ++ [r], C ++ [z], rfl, by simp; omega, fun q hq => ?_, by simp; omega, h⟩))
      rcases List.mem_append.1 hq with hq | hq
      · exact hDr q hq
      · rw [List.mem_singleton] at hq; rw [hq]; exact ⟨by omega, hrb⟩
  · exact drawPr_end (h.cut 3) hi hn3 hm (by omega) hDr (by omega) hQ

theorem fn49 {u1 u2 u3 u4 : Value} {p : Prg} {n m : Nat} (h : Ab.Loc H0 (.data RPrg [u1, u2, u3, u4] p :: L) H) (hi : L[i]? = some (.src b vc code)) (hp : IsNM n m p) (hQ : ∀ H' u1 u2 u3 u4 p, Ab.Loc H0 (.data RPrg [u1, u2, u3, u4] p :: L) H' → SmallG p → Q (.agg #[u1, u2, u3, u4]) H') :
    Runs Tryz.prog 49 #[pt b 0, .agg #[u1, u2, u3, u4]] H Q := by
  have hsm := hp.small
  obtain ⟨n1, m1, pd, pdr, pc, pa, par, pb⟩ := hp
  refine f49.enter ?_
  unfold f49.w
  refine Wl.box (cs := [u1, u2, u3, u4]) h fun H bp h => Wl.new h fun H b2 h => Wi.call (fn47 (i := i + 3) h (by simpa using hi) fun H x h hx _ => ?_)
  have h : Ab.Loc H0 (.box b2 nil4 :: .box bp [u1, u2, u3, u4] :: .data RPrg [u1, u2, u3, u4] p :: L) H := h
  refine Wi.eqlC (fun _ => Wi.tru ?_) fun _ => Wi.fls ?_
  · refine Wi.build (cells := nil4) rfl (Wl.putA (b := b2) (i := 0) h rfl rfl rfl fun H h => Wl.getA (b := b2) h rfl ?_)
    have h : Ab.Loc H0 (.box b2 nil4 :: .box bp [u1, u2, u3, u4] :: .data RPrg [u1, u2, u3, u4] p :: L) H := h
    exact hQ _ _ _ _ _ noPrg (nilPr (((h.cut 0).cut 0).cut 0)) ⟨by simp, by simp, by simp, by simp, by simp, by simp⟩
  have h : Ab.Loc H0 (.data RPrg [u1, u2, u3, u4] p :: .box b2 nil4 :: .box bp [u1, u2, u3, u4] :: L) H := h.front 2 rfl
  have h := split4 h
  have fin : ∀ H w1 w2 w3 w4 (p : Prg), SmallG p → Ab.Loc H0 (.data RSS [w1] p.1 :: .data RS [w2] p.2.1 :: .data RSS [w3] p.2.2.1 :: .data RS [w4] p.2.2.2 :: .box b2 nil4 :: .box bp [w1, w2, w3, w4] :: L) H → f49.j1 Q (pt bp 0) (pt b2 0) H := fun H w1 w2 w3 w4 p hp h => by
    unfold f49.j1
    have kc := cells4 h
    refine Wl.getA (b := bp) h rfl (Wl.putA (b := b2) (i := 4) h rfl rfl kc fun H h => Wl.getA (b := b2) h rfl ?_)
    have h : Ab.Loc H0 (.data RSS [w1] p.1 :: .data RS [w2] p.2.1 :: .data RSS [w3] p.2.2.1 :: .data RS [w4] p.2.2.2 :: .box b2 [w1, w2, w3, w4] :: .box bp [w1, w2, w3, w4] :: L) H := h
    have h := join4 h
    exact hQ _ _ _ _ _ _ ((h.cut 1).cut 1) hp
  obtain ⟨s1, s2, s3, s4, s5, s6⟩ := hsm
  refine Wi.eqlC (fun _ => Wi.tru ?_) fun _ => Wi.fls ?_
  · refine Wi.fieldAddr (Wl.get (b := bp) (o := 1) h rfl (Wi.call (fn79 (h.rd (cs := [u2]) (r := RS)) (by omega) fun H w f => ?_)))
    have h := h.addG f
    refine Wl.pushP (r := Rd.int) (x := (0 : Int)) (i := 0) rfl rfl rfl (fun _ => ⟨rfl, rfl, by unfold I64; omega⟩) h (by omega) fun H w' h => ?_
    have h : Ab.Loc H0 (.grow Rd.int 2 w' (p.2.1 ++ [0]) :: .data RSS [u1] p.1 :: .data RS [u2] p.2.1 :: .data RSS [u3] p.2.2.1 :: .data RS [u4] p.2.2.2 :: .box b2 nil4 :: .box bp [u1, u2, u3, u4] :: L) H := h
    have k := (h.rd (cs := [w']) (r := RS)).cell1
    refine Wi.fieldAddr (Wl.put (b := bp) (o := 1) (i := 6) h k (by simp) fun H h => ?_)
    have h := h.asData (i := 0) rfl
    have h : Ab.Loc H0 (.data RS [w'] (p.2.1 ++ [0]) :: .data RSS [u1] p.1 :: .data RS [u2] p.2.1 :: .data RSS [u3] p.2.2.1 :: .data RS [u4] p.2.2.2 :: .box b2 nil4 :: .box bp [u1, w', u3, u4] :: L) H := h
    exact fin _ _ _ _ _ (p.1, p.2.1 ++ [0], p.2.2) ⟨s1, s2, by show (p.2.1 ++ [0]).length ≤ 6; rw [List.length_append]; simp; omega, s4, s5, s6⟩ ((h.cut 2).front 1 rfl)
  refine Wi.eqlC (fun _ => Wi.tru ?_) fun _ => Wi.fls ?_
  · refine Wi.fieldAddr (Wl.get (b := bp) (o := 0) h rfl (Wi.call (fn78 (h.rd (cs := [u1]) (r := RSS) (x := p.1)) ⟨by omega, fun r hr => by have := s2 r hr; omega⟩ fun H w f => ?_)))
    have h := (h.addG f).asData (i := 0) rfl
    have h : Ab.Loc H0 (.data RSS [w] p.1 :: .data RSS [u1] p.1 :: .data RS [u2] p.2.1 :: .data RSS [u3] p.2.2.1 :: .data RS [u4] p.2.2.2 :: .box b2 nil4 :: .box bp [u1, u2, u3, u4] :: L) H := h
    have h := h.cut 1
    have h : Ab.Loc H0 (.data RSS [w] p.1 :: .data RS [u2] p.2.1 :: .data RSS [u3] p.2.2.1 :: .data RS [u4] p.2.2.2 :: .box b2 nil4 :: .box bp [u1, u2, u3, u4] :: L) H := h
    have k := (h.rd (cs := [w]) (r := RSS)).cell1
    refine Wi.fieldAddr (Wl.put (b := bp) (o := 0) (i := 5) h k (by simp) fun H h => ?_)
    have h : Ab.Loc H0 (.data RSS [w] p.1 :: .data RS [u2] p.2.1 :: .data RSS [u3] p.2.2.1 :: .data RS [u4] p.2.2.2 :: .box b2 nil4 :: .box bp [w, u2, u3, u4] :: L) H := h
    refine Wi.fieldAddr (Wl.get (b := bp) (o := 0) h rfl (Wi.fieldAddr (Wl.get (b := bp) (o := 0) h rfl (Wl.len (v := w) (xs := p.1) h (Wi.sub (by unfold I64; omega) ?_)))))
    obtain ⟨k0, hk0⟩ : ∃ k : Nat, p.1.length = k + 1 := ⟨p.1.length - 1, by omega⟩
    have hk1 : k0 < p.1.length := by omega
    rw [show ((p.1.length : Nat) : Int) - 1 = (k0 : Nat) by omega]
    obtain ⟨us, hus, h⟩ := h.heads (i := 0) rfl rfl
    have h : Ab.Loc H0 (.rows RS w us p.1 :: .data RS [u2] p.2.1 :: .data RSS [u3] p.2.2.1 :: .data RS [u4] p.2.2.2 :: .box b2 nil4 :: .box bp [w, u2, u3, u4] :: L) H := h
    refine Wl.atRow (j := 0) rfl h (a := k0) hk1 fun wr hw hrow => ?_
    obtain ⟨q1, q2⟩ := pdr _ (List.getElem_mem hk1)
    have h0 : 0 < p.1[k0].length := by omega
    have hx0 := q2 _ (List.getElem_mem h0)
    refine Wl.adrH hrow h0 (Wl.ldIntH hrow h0 fun _ => ?_)
    refine Wl.litN [1, 30] rfl (by decide) (by simp [I64]) rfl h fun H vl h => Wi.call (fn70 (i := i + 7) h (by simpa using hi) (fun H h => h.rd (cs := [vl])) (by decide) fun H t h ht => ?_)
    have ht : 1 ≤ t ∧ t ≤ 30 := by simp at ht; omega
    have h := h.tl
    have h : Ab.Loc H0 (.rows RS w us p.1 :: .data RS [u2] p.2.1 :: .data RSS [u3] p.2.2.1 :: .data RS [u4] p.2.2.2 :: .box b2 nil4 :: .box bp [w, u2, u3, u4] :: L) H := h
    have hrow2 := h.row (j := 0) rfl rfl hw hk1
    have hI : ∀ x : Int, x.natAbs ≤ 100 → I64 (x + t) := fun x hx => by unfold I64; omega
    refine Wi.chk (Wl.ldIntH hrow2 h0 fun _ => ⟨rfl, rfl⟩) (Wi.add (hI _ hx0) (Wl.rowSet h (j := 0) rfl hw hk1 (i := 0) h0 (hI _ hx0) fun H h => ?_))
    have h := h.unrows (i := 0) rfl
    unfold f49.j2
    exact fin _ w u2 u3 u4 (p.1.set k0 (p.1[k0].set 0 (p.1[k0][0] + t)), p.2) ⟨by simpa using s1, fun r hr => by
      rcases List.mem_or_eq_of_mem_set hr with g | g
      · exact s2 r g
      · rw [g, List.length_set]; omega, s3, s4, s5, s6⟩ h
  refine Wi.eqlC (fun _ => Wi.tru ?_) fun _ => Wi.fls ?_
  · refine Wi.fieldAddr (Wl.get (b := bp) (o := 3) h rfl (Wi.call (fn79 (h.rd (cs := [u4]) (r := RS) (x := p.2.2.2)) (by omega) fun H w f => ?_)))
    have h := h.addG f
    refine Wl.pushP (r := Rd.int) (x := (0 : Int)) (i := 0) rfl rfl rfl (fun _ => ⟨rfl, rfl, by unfold I64; omega⟩) h (by omega) fun H w' h => ?_
    have h : Ab.Loc H0 (.grow Rd.int 2 w' (p.2.2.2 ++ [0]) :: .data RSS [u1] p.1 :: .data RS [u2] p.2.1 :: .data RSS [u3] p.2.2.1 :: .data RS [u4] p.2.2.2 :: .box b2 nil4 :: .box bp [u1, u2, u3, u4] :: L) H := h
    have k := (h.rd (cs := [w']) (r := RS)).cell1
    refine Wi.fieldAddr (Wl.put (b := bp) (o := 3) (i := 6) h k (by simp) fun H h => ?_)
    have h := h.asData (i := 0) rfl
    have h : Ab.Loc H0 (.data RS [w'] (p.2.2.2 ++ [0]) :: .data RSS [u1] p.1 :: .data RS [u2] p.2.1 :: .data RSS [u3] p.2.2.1 :: .data RS [u4] p.2.2.2 :: .box b2 nil4 :: .box bp [u1, u2, u3, w'] :: L) H := h
    unfold f49.j3 f49.j2
    have h : Ab.Loc H0 (.data RSS [u1] p.1 :: .data RS [u2] p.2.1 :: .data RSS [u3] p.2.2.1 :: .data RS [w'] (p.2.2.2 ++ [0]) :: .box b2 nil4 :: .box bp [u1, u2, u3, w'] :: L) H := (((h.cut 4).front 3 rfl).front 3 rfl).front 3 rfl
    exact fin _ _ _ _ _ (p.1, p.2.1, p.2.2.1, p.2.2.2 ++ [0]) ⟨s1, s2, s3, s4, s5, by show (p.2.2.2 ++ [0]).length ≤ 6; rw [List.length_append]; simp; omega⟩ h
  · unfold f49.j3 f49.j2
    exact fin _ _ _ _ _ p ⟨s1, s2, s3, s4, s5, s6⟩ h

theorem fn69 (h : Ab.Loc H0 L H) (hi : L[i]? = some (.src b vc code)) (hQ : ∀ H' u1 u2 u3 u4 p, Ab.Loc H0 (.data RPrg [u1, u2, u3, u4] p :: L) H' → SmallG p → Q (.agg #[u1, u2, u3, u4]) H') :
    Runs Tryz.prog 69 #[pt b 0] H Q := by
  refine f69.enter ?_
  unfold f69.w
  refine Wl.new h fun H b1 h => Wi.call (fn46 (i := i + 1) h (by simpa using hi) fun H u1 u2 u3 u4 p n m h hp => Wi.call (fn49 (i := i + 1) h (by simpa using hi) hp fun H w1 w2 w3 w4 p h hp => ?_))
  have kc := (h.rd (cs := [w1, w2, w3, w4]) (r := RPrg)).cell
  refine Wl.putA (b := b1) (i := 1) h rfl rfl kc fun H h => Wl.getA (b := b1) h rfl ?_
  exact hQ _ w1 w2 w3 w4 p (h.cut 1) hp

end

section
variable {H0 : Heap} {Q : Post} {vc : Value} {code : List Int}

theorem fn6 (hc : Has RBytes H0 [vc] code) (hQ : ∀ H' u1 u2 u3 u4 p, Fresh RPrg H0 [u1, u2, u3, u4] p H' → SmallG p → Q (.agg #[u1, u2, u3, u4]) H') : Runs Tryz.prog 6 #[vc] H0 Q := by
  refine f6.enter ?_
  unfold f6.w
  refine Wl.new (Loc.start H0) fun H b1 h => Wi.call (fn45 hc h fun H b h => Wi.call (fn46 (i := 0) h rfl fun H u1 u2 u3 u4 p n m h hp => ?_))
  have kc := (h.rd (cs := [u1, u2, u3, u4]) (r := RPrg)).cell
  refine Wl.new h fun H b4 h => Wl.putA (b := b4) h rfl rfl kc fun H h => ?_
  have h : Ab.Loc H0 [.box b4 [u1, u2, u3, u4], .data RPrg [u1, u2, u3, u4] p, .src b vc code, .box b1 nil4] H := h
  refine Wi.call (fn47 (i := 2) h rfl fun H x h hx _ => ?_)
  have fin : ∀ H w1 w2 w3 w4 p, IsNM n m p → Ab.Loc H0 [.box b4 [w1, w2, w3, w4], .data RPrg [w1, w2, w3, w4] p, .src b vc code, .box b1 nil4] H → f6.j1 Q (pt b4 0) (pt b 0) (pt b1 0) H := fun H w1 w2 w3 w4 p hp h => by
    unfold f6.j1
    refine Wl.getA (b := b4) h rfl ?_
    have h : Ab.Loc H0 [.data RPrg [w1, w2, w3, w4] p, .box b4 [w1, w2, w3, w4], .src b vc code, .box b1 nil4] H := h.front 1 rfl
    refine (Wi.call (fn49 (i := 1) h rfl hp fun H y1 y2 y3 y4 p h hp => ?_))
    have kc := (h.rd (cs := [y1, y2, y3, y4]) (r := RPrg)).cell
    refine Wl.putA (b := b1) (i := 3) h rfl rfl kc fun H h => Wl.getA (b := b1) h rfl ?_
    exact hQ _ y1 y2 y3 y4 p (h.ret (i := 0) rfl) hp
  refine Wi.gtrC (fun _ => Wi.tru ?_) fun _ => Wi.fls (fin _ _ _ _ _ _ hp h)
  have h : Ab.Loc H0 [.data RPrg [u1, u2, u3, u4] p, .box b4 [u1, u2, u3, u4], .src b vc code, .box b1 nil4] H := h.front 1 rfl
  have h := split4 h
  obtain ⟨n1, m1, pd, pdr, pc, pa, par, pb⟩ := hp
  refine Wi.fieldAddr (Wl.get (b := b4) (o := 1) h rfl (Wl.len (v := u2) (xs := p.2.1) h (Wi.call (fn48 (n := p.2.1.length) (by omega) fun H w f => ?_))))
  have h := (h.addG f).asData (i := 0) rfl
  have h : Ab.Loc H0 [.data RSS [w] (List.replicate p.2.1.length (List.replicate p.2.1.length 0)), .data RSS [u1] p.1, .data RS [u2] p.2.1, .data RSS [u3] p.2.2.1, .data RS [u4] p.2.2.2, .box b4 [u1, u2, u3, u4], .src b vc code, .box b1 nil4] H := h
  have h := h.cut 1
  have h : Ab.Loc H0 [.data RSS [w] (List.replicate p.2.1.length (List.replicate p.2.1.length 0)), .data RS [u2] p.2.1, .data RSS [u3] p.2.2.1, .data RS [u4] p.2.2.2, .box b4 [u1, u2, u3, u4], .src b vc code, .box b1 nil4] H := h
  have k := (h.rd (cs := [w]) (r := RSS)).cell1
  refine Wi.fieldAddr (Wl.put (b := b4) (o := 0) (i := 4) h k (by simp) fun H h => ?_)
  have h : Ab.Loc H0 [.data RSS [w] (List.replicate p.2.1.length (List.replicate p.2.1.length 0)), .data RS [u2] p.2.1, .data RSS [u3] p.2.2.1, .data RS [u4] p.2.2.2, .box b4 [w, u2, u3, u4], .src b vc code, .box b1 nil4] H := h
  have h := join4 (p := (List.replicate p.2.1.length (List.replicate p.2.1.length 0), p.2)) h
  refine fin _ w u2 u3 u4 (List.replicate p.2.1.length (List.replicate p.2.1.length 0), p.2) ⟨n1, m1, by simpa using pc, fun r hr => ?_, pc, pa, par, pb⟩ (h.front 1 rfl)
  have := List.eq_of_mem_replicate hr
  subst this
  exact ⟨by simpa using pc, fun x hx => by rw [List.eq_of_mem_replicate hx]; decide⟩

theorem fn11 (hc : Has RBytes H0 [vc] code) (hQ : ∀ H' u1 u2 u3 u4 p (k : Int), Fresh RPrg H0 [u1, u2, u3, u4] p H' → SmallG p → I64 k → Q (.tuple #[.agg #[u1, u2, u3, u4], .int .i64 k]) H') : Runs Tryz.prog 11 #[vc] H0 Q := by
  refine f11.enter ?_
  unfold f11.w
  refine Wl.new (Loc.start H0) fun H b1 h => Wi.call (fn45 hc h fun H b h => Wi.call (fn69 (i := 0) h rfl fun H u1 u2 u3 u4 p h hp => ?_))
  have kc := (h.rd (cs := [u1, u2, u3, u4]) (r := RPrg)).cell
  refine Wl.new h fun H b4 h => Wl.putA (b := b4) h rfl rfl kc fun H h => Wl.getA (b := b4) h rfl ?_
  have h : Ab.Loc H0 [.box b4 [u1, u2, u3, u4], .data RPrg [u1, u2, u3, u4] p, .src b vc code, .box b1 nil4] H := h
  refine Wl.litN [1, 2, 3, 20, 0, 21] rfl (by decide) (by simp [I64]) rfl h fun H vl h => Wi.call (fn70 (i := 3) h rfl (fun H h => h.rd (cs := [vl])) (by decide) fun H t h ht => ?_)
  have ht : I64 t := by simp at ht; unfold I64; omega
  refine Wi.chk (Wl.getA (b := b4) h rfl ⟨rfl, rfl⟩) (Wl.putA (b := b1) (i := 4) h rfl rfl kc fun H h => Wl.getA (b := b1) h rfl ?_)
  exact hQ _ u1 u2 u3 u4 p t (h.ret (i := 2) rfl) hp ht

theorem fn15 (hc : Has RBytes H0 [vc] code) (hQ : ∀ H' u1 u2 u3 u4 p w1 w2 w3 w4 q, Fresh (Rd.pair RPrg RPrg) H0 [u1, u2, u3, u4, w1, w2, w3, w4] (p, q) H' → SmallG p → SmallG q → Q (.tuple #[.agg #[u1, u2, u3, u4], .agg #[w1, w2, w3, w4]]) H') : Runs Tryz.prog 15 #[vc] H0 Q := by
  refine f15.enter ?_
  unfold f15.w
  refine Wl.new (Loc.start H0) fun H b1 h => Wl.new h fun H b2 h => Wi.call (fn45 hc h fun H b h => Wi.call (fn46 (i := 0) h rfl fun H u1 u2 u3 u4 p n m h hp => ?_))
  have kc := (h.rd (cs := [u1, u2, u3, u4]) (r := RPrg)).cell
  refine Wl.new h fun H b5 h => Wl.putA (b := b5) h rfl rfl kc fun H h => ?_
  have h : Ab.Loc H0 [.box b5 [u1, u2, u3, u4], .data RPrg [u1, u2, u3, u4] p, .src b vc code, .box b2 nil4, .box b1 nil4] H := h
  refine Wi.call (fn46 (i := 2) h rfl fun H w1 w2 w3 w4 q n2 m2 h hq => ?_)
  have kq := (h.rd (cs := [w1, w2, w3, w4]) (r := RPrg) (x := q)).cell
  refine Wl.new h fun H b7 h => Wl.putA (b := b7) (i := 0) h rfl rfl kq fun H h => ?_
  have h : Ab.Loc H0 [.box b7 [w1, w2, w3, w4], .data RPrg [w1, w2, w3, w4] q, .box b5 [u1, u2, u3, u4], .data RPrg [u1, u2, u3, u4] p, .src b vc code, .box b2 nil4, .box b1 nil4] H := h
  refine W.for_rule 6 (fun x st H => ∃ w1 w2 w3 w4 q n2 m2, st = (.int .i64 (x : Nat), ()) ∧ IsNM n2 m2 q ∧ Ab.Loc H0 [.box b7 [w1, w2, w3, w4], .data RPrg [w1, w2, w3, w4] q, .box b5 [u1, u2, u3, u4], .data RPrg [u1, u2, u3, u4] p, .src b vc code, .box b2 nil4, .box b1 nil4] H) ⟨w1, w2, w3, w4, q, n2, m2, rfl, hq, h⟩ ?_
  rintro x st H J hx ⟨w1, w2, w3, w4, q, n2, m2, rfl, hq, h⟩ hJ
  have out : W.getN 4 (pt b5 0) H fun v19 H => (fun Hk2 => W.call Tryz.prog (.func (.func 49) #[] #[]) #[pt b 0, v19] H fun v20 H => W.getN 4 (pt b7 0) H fun v21 H => W.chk (fun H k => W.getN 4 (pt b7 0) H k) v21 Hk2 (W.call Tryz.prog (.func (.func 49) #[] #[]) #[pt b 0, v21] H fun v22 H => W.putN 4 (pt b1 0) v20 H fun _ H => W.putN 4 (pt b2 0) v22 H fun _ H => W.getN 4 (pt b1 0) H fun v23 H => W.getN 4 (pt b2 0) H fun v24 H => Q (.tuple #[v23, v24]) H)) H := by
    refine Wl.getA (b := b5) h rfl ?_
    have hk := h
    have h : Ab.Loc H0 [.data RPrg [u1, u2, u3, u4] p, .box b7 [w1, w2, w3, w4], .data RPrg [w1, w2, w3, w4] q, .box b5 [u1, u2, u3, u4], .src b vc code, .box b2 nil4, .box b1 nil4] H := h.front 3 rfl
    refine Wi.call (fn49 (i := 3) h rfl hp fun H y1 y2 y3 y4 p' h hp' => ?_)
    have ky := (h.rd (cs := [y1, y2, y3, y4]) (r := RPrg) (x := p')).cell
    refine Wl.getA (b := b7) h rfl (Wi.chk (Wl.getA (b := b7) hk rfl ⟨rfl, rfl⟩) ?_)
    have h : Ab.Loc H0 [.data RPrg [w1, w2, w3, w4] q, .data RPrg [y1, y2, y3, y4] p', .box b7 [w1, w2, w3, w4], .box b5 [u1, u2, u3, u4], .src b vc code, .box b2 nil4, .box b1 nil4] H := h.front 2 rfl
    refine Wi.call (fn49 (i := 3) h rfl hq fun H z1 z2 z3 z4 q' h hq' => ?_)
    have kz := (h.rd (cs := [z1, z2, z3, z4]) (r := RPrg) (x := q')).cell
    refine Wl.putA (b := b1) (i := 6) h rfl rfl ky fun H h => Wl.putA (b := b2) (i := 5) h rfl rfl kz fun H h => Wl.getA (b := b1) h rfl (Wl.getA (b := b2) h rfl ?_)
    exact hQ _ y1 y2 y3 y4 p' z1 z2 z3 z4 q' (Loc.ret2 h (c1 := [y1, y2, y3, y4]) (c2 := [z1, z2, z3, z4]) (i := 1) (j := 0) rfl rfl (by decide)) hp' hq'
  have lu2 : Has RS H [u2] p.2.1 := by
    obtain ⟨a1, a2, a3, a4, e, _, r2, _⟩ := hasPrg (h.rd (cs := [u1, u2, u3, u4]) (r := RPrg) (x := p))
    cases e
    exact r2
  have lw2 : Has RS H [w2] q.2.1 := by
    obtain ⟨a1, a2, a3, a4, e, _, r2, _⟩ := hasPrg (h.rd (cs := [w1, w2, w3, w4]) (r := RPrg) (x := q))
    cases e
    exact r2
  refine Wi.lssC (fun hlt => ?_) fun hge => ?_
  · simp only [gw]
    refine Wi.fieldAddr (Wl.get (b := b7) (o := 1) h rfl (Wl.lenH lw2 (Wi.fieldAddr (Wl.get (b := b5) (o := 1) h rfl (Wl.lenH lu2 (Wi.neqC (fun hne => ?_) fun he => ?_))))))
    · simp only [gw]
      have h := h.cut 1
      have h : Ab.Loc H0 [.box b7 [w1, w2, w3, w4], .box b5 [u1, u2, u3, u4], .data RPrg [u1, u2, u3, u4] p, .src b vc code, .box b2 nil4, .box b1 nil4] H := h
      refine Wi.call (fn46 (i := 3) h rfl fun H y1 y2 y3 y4 q' n3 m3 h hq' => ?_)
      have ky := (h.rd (cs := [y1, y2, y3, y4]) (r := RPrg) (x := q')).cell
      refine Wl.putA (b := b7) (i := 1) h rfl rfl ky fun H h => Wi.add (by unfold I64; omega) (hJ _ _ (by omega) ⟨y1, y2, y3, y4, q', n3, m3, rfl, hq', h.front 1 rfl⟩)
    · simp only [gw]
      exact out
  · simp only [gw]
    exact out

theorem fn18 (hc : Has RBytes H0 [vc] code) (hQ : ∀ H' u1 u2 u3 u4 p vx x vu u, Fresh (Rd.pair RPrg (Rd.pair RS RS)) H0 [u1, u2, u3, u4, vx, vu] (p, x, u) H' → SmallG p → x.length ≤ 6 → u.length ≤ 6 → Q (.tuple #[.agg #[u1, u2, u3, u4], vx, vu]) H') : Runs Tryz.prog 18 #[vc] H0 Q := by
  refine f18.enter ?_
  unfold f18.w
  refine Wl.new (Loc.start H0) fun H b1 h => Wi.call (fn45 hc h fun H b h => Wi.call (fn46 (i := 0) h rfl fun H u1 u2 u3 u4 p n m h hp => ?_))
  have kc := (h.rd (cs := [u1, u2, u3, u4]) (r := RPrg)).cell
  refine Wl.lit0 (ty := 2) Rd.int rfl h fun H vx h => Wl.lit0 (ty := 2) Rd.int rfl h fun H vu h => ?_
  refine Wl.litN [2, 9, 100] rfl (by decide) (by simp [I64]) rfl h fun H vl h => Wi.call (fn70 (i := 4) h rfl (fun H h => h.rd (cs := [vl])) (by decide) fun H most h ht => ?_)
  have ht : 0 ≤ most ∧ most ≤ 100 := by simp at ht; omega
  have h := h.tl
  refine Wl.new h fun H b8 h => Wl.putA (b := b8) (i := 0) h rfl rfl kc fun H h => ?_
  have h : Ab.Loc H0 [.box b8 [u1, u2, u3, u4], .grow Rd.int 2 vu [], .grow Rd.int 2 vx [], .data RPrg [u1, u2, u3, u4] p, .src b vc code, .box b1 nil4] H := h
  have hpn : p.2.1.length = n := hp.c
  have hn := hp.n1
  refine W.for_rule n (fun j st H => ∃ vx x vu u, st = (vx, vu, .int .i64 (j : Nat), ()) ∧ x.length = j ∧ u.length = j ∧ Ab.Loc H0 [.box b8 [u1, u2, u3, u4], .grow Rd.int 2 vu u, .grow Rd.int 2 vx x, .data RPrg [u1, u2, u3, u4] p, .src b vc code, .box b1 nil4] H) ⟨vx, [], vu, [], rfl, rfl, rfl, h⟩ ?_
  rintro j st H J hj ⟨vx, x, vu, u, rfl, hx, hu, h⟩ hJ
  have lu2 : Has RS H [u2] p.2.1 := by
    obtain ⟨a1, a2, a3, a4, e, _, r2, _⟩ := hasPrg (h.rd (cs := [u1, u2, u3, u4]) (r := RPrg) (x := p))
    cases e
    exact r2
  refine Wi.fieldAddr (Wl.get (b := b8) (o := 1) h rfl (Wl.lenH lu2 ?_))
  rw [hpn]
  refine Wi.lssC (fun hlt => Wi.tru ?_) fun hge => Wi.fls ?_
  · have hjn : j < n := by omega
    refine Wi.call (fn84 (i := 4) h rfl ht fun H z h hz => ?_)
    refine Wl.pushP (r := Rd.int) (x := z) (i := 2) rfl rfl rfl (fun _ => ⟨rfl, rfl, by unfold I64; omega⟩) h (by omega) fun H vx' h => ?_
    have h : Ab.Loc H0 [.box b8 [u1, u2, u3, u4], .grow Rd.int 2 vu u, .grow Rd.int 2 vx' (x ++ [z]), .data RPrg [u1, u2, u3, u4] p, .src b vc code, .box b1 nil4] H := h
    refine Wi.call (fn84 (i := 4) h rfl ht fun H y h hy => ?_)
    refine Wl.pushP (r := Rd.int) (x := y) (i := 1) rfl rfl rfl (fun _ => ⟨rfl, rfl, by unfold I64; omega⟩) h (by omega) fun H vu' h => ?_
    exact Wi.add (by unfold I64; omega) (hJ _ _ hjn ⟨vx', x ++ [z], vu', u ++ [y], rfl, by simp; omega, by simp; omega, h⟩)
  · have hjn : j = n := by omega
    have fin : ∀ H vx x vu u, x.length ≤ 6 → u.length ≤ 6 → Ab.Loc H0 [.box b8 [u1, u2, u3, u4], .data RS [vu] u, .data RS [vx] x, .data RPrg [u1, u2, u3, u4] p, .src b vc code, .box b1 nil4] H → f18.j1 Q (pt b8 0) (pt b 0) (pt b1 0) vx vu H := fun H vx x vu u g1 g2 h => by
      unfold f18.j1
      refine Wl.getA (b := b8) h rfl ?_
      have h : Ab.Loc H0 [.data RPrg [u1, u2, u3, u4] p, .box b8 [u1, u2, u3, u4], .data RS [vu] u, .data RS [vx] x, .src b vc code, .box b1 nil4] H := h.front 3 rfl
      refine Wi.call (fn49 (i := 3) h rfl hp fun H y1 y2 y3 y4 p' h hp' => ?_)
      have ky := (h.rd (cs := [y1, y2, y3, y4]) (r := RPrg) (x := p')).cell
      refine Wl.putA (b := b1) (i := 5) h rfl rfl ky fun H h => Wl.getA (b := b1) h rfl ?_
      have h : Ab.Loc H0 [.data RPrg [y1, y2, y3, y4] p', .box b8 [u1, u2, u3, u4], .data RS [vu] u, .data RS [vx] x, .src b vc code, .box b1 [y1, y2, y3, y4]] H := h
      have h := h.pair (i := 3) (j := 2) rfl rfl (by decide)
      have h : Ab.Loc H0 [.data RPrg [y1, y2, y3, y4] p', .box b8 [u1, u2, u3, u4], .emp, .data (Rd.pair RS RS) [vx, vu] (x, u), .src b vc code, .box b1 [y1, y2, y3, y4]] H := h
      exact hQ _ y1 y2 y3 y4 p' vx x vu u (Loc.ret2 h (c1 := [y1, y2, y3, y4]) (c2 := [vx, vu]) (i := 0) (j := 3) rfl rfl (by decide)) hp' g1 g2
    refine Wi.call (fn47 (i := 4) h rfl fun H y h hy _ => ?_)
    refine Wi.eqlC (fun _ => Wi.tru ?_) fun _ => Wi.fls ?_
    · refine Wl.litN [101, -101] rfl (by decide) (by simp [I64]) rfl h fun H vl h => Wi.call (fn70 (i := 5) h rfl (fun H h => h.rd (cs := [vl])) (by decide) fun H t h ht => ?_)
      have ht : I64 t := by simp at ht; unfold I64; omega
      have h := h.tl
      have h := (h.asData (i := 1) rfl).asData (i := 2) rfl
      have h : Ab.Loc H0 [.box b8 [u1, u2, u3, u4], .data RS [vu] u, .data RS [vx] x, .data RPrg [u1, u2, u3, u4] p, .src b vc code, .box b1 nil4] H := h
      refine Wl.setInt (v := vx) (j := 2) h (i := 0) (by omega) ht fun H h => fin _ _ (x.set 0 t) _ u (by rw [List.length_set]; omega) (by omega) h
    refine Wi.eqlC (fun _ => Wi.tru ?_) fun _ => Wi.fls ?_
    · refine Wl.pushP (r := Rd.int) (x := (0 : Int)) (i := 1) rfl rfl rfl (fun _ => ⟨rfl, rfl, by unfold I64; omega⟩) h (by omega) fun H vu' h => ?_
      have h : Ab.Loc H0 [.box b8 [u1, u2, u3, u4], .grow Rd.int 2 vu' (u ++ [0]), .grow Rd.int 2 vx x, .data RPrg [u1, u2, u3, u4] p, .src b vc code, .box b1 nil4] H := h
      have h := (h.asData (i := 1) rfl).asData (i := 2) rfl
      unfold f18.j2
      exact fin _ _ x _ (u ++ [0]) (by omega) (by simp; omega) h
    · have h := (h.asData (i := 1) rfl).asData (i := 2) rfl
      unfold f18.j2
      exact fin _ _ x _ u (by omega) (by omega) h

end
end Go.Proofs.YtdchibdcfdbcpaaGreat
