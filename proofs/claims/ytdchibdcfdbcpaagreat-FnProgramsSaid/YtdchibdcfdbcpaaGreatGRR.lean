/- Draws: sources, numbers, matrices. No condition. -/
import Derived.Test.YtdchibdcfdbcpaaGreatGAA
import Derived.Test.YtdchibdcfdbcpaaGreatZabSrc
import Derived.Test.YtdchibdcfdbcpaaGreatZabG8
import Derived.Test.YtdchibdcfdbcpaaGreatZabG9
import Derived.Test.YtdchibdcfdbcpaaGreatGDD
import Derived.Test.YtdchibdcfdbcpaaGreatGBB
import Derived.Test.YtdchibdcfdbcpaaGreatGEE
namespace Go.Proofs.YtdchibdcfdbcpaaGreat
open Go.Ab

/- loop.example/g01343/spec.l01From -/
def f45.l1 (Q : Post) (code_0 : Value) (v5 : Value) (I1 : St [4] → Heap → Prop) (i_4 : Value) (H : Heap) : Prop :=
  W.len code_0 H fun v6 H =>
  W.bin .lss i_4 v6 H fun v7 H =>
  W.guarded v7 true (fun H k => k i_4 H) H fun v8 H =>
  W.guarded v7 true (fun H k => W.bin .lss v8 (.int .i64 4096) H k) H fun v9 H =>
  W.pick v7 v9 (.bool false) H fun v10 H =>
  W.cond v10 H
  (fun H => W.nilCheck v5 H fun v11 H =>
   W.fieldAddr 2 v11 H fun v12 H =>
   W.get v12 H fun v13 H =>
   W.bin .mul v13 (.int .u64 1099511628211) H fun v14 H =>
   W.indexAddr 1 code_0 i_4 H fun v15 H =>
   W.get v15 H fun v16 H =>
   W.conv .u64 v16 H fun v17 H =>
   W.bin .add v14 v17 H fun v18 H =>
   W.bin .add v18 (.int .u64 167) H fun v19 H =>
   W.nilCheck v5 H fun v20 H =>
   W.fieldAddr 2 v20 H fun v21 H =>
   W.put v21 v19 H fun _ H =>
   W.bin .add i_4 (.int .i64 1) H fun v22 H =>
   I1 (v22, ()) H)
  (fun H => Q v5 H)
def f45.w (Q : Post) (code_0 : Value) (H : Heap) : Prop :=
  W.len code_0 H fun v1 H =>
  W.conv .u64 v1 H fun v2 H =>
  W.bin .add (.int .u64 13431) v2 H fun v3 H =>
  W.build [(.slice none 0 0), (.int .i64 0), (.int .u64 0)] [(0, 1, code_0), (2, 1, v3)] H fun v4 H =>
  W.box v4 126 H fun v5 H =>
  W.loop (S := St [4]) (fun I1 s H => f45.l1 Q code_0 v5 I1 s.1 H) ((.int .i64 0), ()) H
theorem f45.enter {Q : Post} {code_0 : Value} {H : Heap} (h : f45.w Q code_0 H) : Runs Tryz.prog 45 #[code_0] H Q :=
  fn_enter (ann := [(3, [4])]) (by kernel_rfl) Tryz.func45 rfl (by kernel_rfl) h (by kernel_rfl)

/- loop.example/g01343/spec.l01Next -/
def f47.j1 (Q : Post) (n_1 : Value) (x_5 : Value) (H : Heap) : Prop :=
  W.bin .rem x_5 n_1 H fun v39 H =>
  Q v39 H
def f47.w (Q : Post) (s_0 : Value) (n_1 : Value) (H : Heap) : Prop :=
  W.bin .lss n_1 (.int .i64 1) H fun v1 H =>
  W.cond v1 H
  (fun H => Q (.int .i64 0) H)
  (fun H => W.nilCheck s_0 H fun v2 H =>
   W.fieldAddr 2 v2 H fun v3 H =>
   W.get v3 H fun v4 H =>
   W.bin .mul v4 (.int .u64 6364136223846793005) H fun v5 H =>
   W.bin .add v5 (.int .u64 1442695040888963407) H fun v6 H =>
   W.nilCheck s_0 H fun v7 H =>
   W.fieldAddr 2 v7 H fun v8 H =>
   W.put v8 v6 H fun _ H =>
   W.nilCheck s_0 H fun v9 H =>
   W.fieldAddr 2 v9 H fun v10 H =>
   W.get v10 H fun v11 H =>
   W.bin .shr v11 (.int .u64 31) H fun v12 H =>
   W.bin .and v12 (.int .u64 1073741823) H fun v13 H =>
   W.conv .i64 v13 H fun v14 H =>
   W.nilCheck s_0 H fun v15 H =>
   W.fieldAddr 1 v15 H fun v16 H =>
   W.get v16 H fun v17 H =>
   W.nilCheck s_0 H fun v18 H =>
   W.fieldAddr 0 v18 H fun v19 H =>
   W.get v19 H fun v20 H =>
   W.len v20 H fun v21 H =>
   W.bin .lss v17 v21 H fun v22 H =>
   W.cond v22 H
   (fun H => W.nilCheck s_0 H fun v23 H =>
    W.fieldAddr 0 v23 H fun v24 H =>
    W.get v24 H fun v25 H =>
    W.nilCheck s_0 H fun v26 H =>
    W.fieldAddr 1 v26 H fun v27 H =>
    W.get v27 H fun v28 H =>
    W.indexAddr 1 v25 v28 H fun v29 H =>
    W.get v29 H fun v30 H =>
    W.conv .i64 v30 H fun v31 H =>
    W.bin .add v14 v31 H fun v32 H =>
    W.nilCheck s_0 H fun v33 H =>
    W.fieldAddr 1 v33 H fun v34 H =>
    W.get v34 H fun v35 H =>
    W.bin .add v35 (.int .i64 1) H fun v36 H =>
    W.nilCheck s_0 H fun v37 H =>
    W.fieldAddr 1 v37 H fun v38 H =>
    W.put v38 v36 H fun _ H =>
    f47.j1 Q n_1 v32 H)
   (fun H => f47.j1 Q n_1 v14 H))
theorem f47.enter {Q : Post} {s_0 : Value} {n_1 : Value} {H : Heap} (h : f47.w Q s_0 n_1 H) : Runs Tryz.prog 47 #[s_0, n_1] H Q :=
  fn_enter (ann := []) (by kernel_rfl) Tryz.func47 rfl (by kernel_rfl) h (by kernel_rfl)

/- loop.example/g01343/spec.l01Pick -/
def f70.w (Q : Post) (s_0 : Value) (list_1 : Value) (H : Heap) : Prop :=
  W.len list_1 H fun v1 H =>
  W.call Tryz.prog (.func (.func 47) #[] #[]) #[s_0, v1] H fun v2 H =>
  W.indexAddr 1 list_1 v2 H fun v3 H =>
  W.get v3 H fun v4 H =>
  Q v4 H
theorem f70.enter {Q : Post} {s_0 : Value} {list_1 : Value} {H : Heap} (h : f70.w Q s_0 list_1 H) : Runs Tryz.prog 70 #[s_0, list_1] H Q :=
  fn_enter (ann := []) (by kernel_rfl) Tryz.func70 rfl (by kernel_rfl) h (by kernel_rfl)

/- loop.example/g01343/spec.l01DrawPart -/
def f84.w (Q : Post) (s_0 : Value) (most_1 : Value) (H : Heap) : Prop :=
  W.bin .mul (.int .i64 2) most_1 H fun v1 H =>
  W.bin .add v1 (.int .i64 1) H fun v2 H =>
  W.call Tryz.prog (.func (.func 47) #[] #[]) #[s_0, v2] H fun v3 H =>
  W.bin .sub v3 most_1 H fun v4 H =>
  Q v4 H
theorem f84.enter {Q : Post} {s_0 : Value} {most_1 : Value} {H : Heap} (h : f84.w Q s_0 most_1 H) : Runs Tryz.prog 84 #[s_0, most_1] H Q :=
  fn_enter (ann := []) (by kernel_rfl) Tryz.func84 rfl (by kernel_rfl) h (by kernel_rfl)

/- loop.example/g01343/spec.l01DrawM -/
def f105.l2 (Q : Post) (n_1 : Value) (s_0 : Value) (most_2 : Value) (out_7 : Value) (i_8 : Value) (I1 : St [7, 8] → Heap → Prop) (I2 : St [9, 10] → Heap → Prop) (row_9 : Value) (k_10 : Value) (H : Heap) : Prop :=
  W.bin .lss k_10 n_1 H fun v4 H =>
  W.cond v4 H
  (fun H => W.call Tryz.prog (.func (.func 84) #[] #[]) #[s_0, most_2] H fun v5 H =>
   W.lit 3 [(.int .i64 0)] 2 [(0, 1, (.int .i64 0)), (1, 1, (.int .i64 1)), (2, 1, (.int .i64 1))] H fun v6 H =>
   W.call Tryz.prog (.func (.func 70) #[] #[]) #[s_0, v6] H fun v7 H =>
   W.bin .mul v5 v7 H fun v8 H =>
   W.lit 1 [(.int .i64 0)] 2 [(0, 1, v8)] H fun v9 H =>
   W.append 1 2 row_9 v9 H fun v10 H =>
   W.bin .add k_10 (.int .i64 1) H fun v11 H =>
   I2 (v10, v11, ()) H)
  (fun H => W.lit 1 [(.slice none 0 0)] 25 [(0, 1, row_9)] H fun v12 H =>
   W.append 1 25 out_7 v12 H fun v13 H =>
   W.bin .add i_8 (.int .i64 1) H fun v14 H =>
   I1 (v13, v14, ()) H)
def f105.l1 (Q : Post) (n_1 : Value) (s_0 : Value) (most_2 : Value) (I1 : St [7, 8] → Heap → Prop) (out_7 : Value) (i_8 : Value) (H : Heap) : Prop :=
  W.bin .lss i_8 n_1 H fun v2 H =>
  W.cond v2 H
  (fun H => W.lit 0 [(.int .i64 0)] 2 [] H fun v3 H =>
   W.loop (S := St [9, 10]) (fun I2 s H => f105.l2 Q n_1 s_0 most_2 out_7 i_8 I1 I2 s.1 s.2.1 H) (v3, (.int .i64 0), ()) H)
  (fun H => Q out_7 H)
def f105.w (Q : Post) (s_0 : Value) (n_1 : Value) (most_2 : Value) (H : Heap) : Prop :=
  W.lit 0 [(.slice none 0 0)] 25 [] H fun v1 H =>
  W.loop (S := St [7, 8]) (fun I1 s H => f105.l1 Q n_1 s_0 most_2 I1 s.1 s.2.1 H) (v1, (.int .i64 0), ()) H
theorem f105.enter {Q : Post} {s_0 : Value} {n_1 : Value} {most_2 : Value} {H : Heap} (h : f105.w Q s_0 n_1 most_2 H) : Runs Tryz.prog 105 #[s_0, n_1, most_2] H Q :=
  fn_enter (ann := [(3, [7, 8]), (7, [9, 10])]) (by kernel_rfl) Tryz.func105 rfl (by kernel_rfl) h (by kernel_rfl)


abbrev RBytes : Rd (List Int) := Rd.slice Rd.u8

section
variable {H0 H : Heap} {L : List (Atom H0.next)} {Q : Post} {b i : Nat} {vc : Value} {code : List Int}

theorem fn47 {n : Int} (h : Ab.Loc H0 L H) (hi : L[i]? = some (.src b vc code)) (hQ : ∀ H' (x : Int), Ab.Loc H0 L H' → 0 ≤ x ∧ x < 1073742080 → (1 ≤ n → x < n) → Q (.int .i64 x) H') : Runs Tryz.prog 47 #[pt b 0, .int .i64 n] H Q := by
  refine f47.enter ?_
  unfold f47.w
  refine Wi.lssC (fun h1 => Wi.tru (hQ _ 0 h ⟨by decide, by decide⟩ fun g => by omega)) fun h1 => Wi.fls ?_
  obtain ⟨a, hh, ty, e, hk, ha, hc, hb0, up⟩ := h.src hi
  refine Wi.nilP (Wi.fieldAddr (Wi.get hk rfl (Wi.mulU fun c1 => Wi.addU fun c2 => Wi.nilP (Wi.fieldAddr (Wi.put hk rfl rfl (by simp) fun H1 w1 => ?_)))))
  have k1 : H1.blk b = some ⟨[vc, .int .i64 (a : Int), .int .u64 c2], ty, e, false⟩ := w1.here
  refine Wi.nilP (Wi.fieldAddr (Wi.get k1 rfl (Wi.shrU (by decide) fun c3 => Wi.andU (m := 1073741823) (by decide) fun m hm => Wi.convI (by unfold I64; omega) ?_)))
  refine Wi.nilP (Wi.fieldAddr (Wi.get k1 rfl (Wi.nilP (Wi.fieldAddr (Wi.get k1 rfl ?_)))))
  have h1' : Ab.Loc H0 L H1 := up H1 (by rw [w1.next]; exact Nat.le_refl _) (fun c _ hcb => w1.off c hcb) ⟨a, c2, ty, e, k1, ha⟩
  have hc1 : Has RBytes H1 [vc] code := (h1'.src hi).elim fun _ g => g.elim fun _ g => g.elim fun _ g => g.elim fun _ g => g.2.2.1
  have hsm := hc1.small
  have fin : ∀ H2 (x : Int), Ab.Loc H0 L H2 → 0 ≤ x → x < 1073742080 → f47.j1 Q (.int .i64 n) (.int .i64 x) H2 := fun H2 x h2 g1 g2 => by
    unfold f47.j1
    have e1 := Int.tmod_nonneg n g1
    have e2 : x.tmod n ≤ x := by
      have e : x.tmod n = ((x.toNat % n.toNat : Nat) : Int) := by
        rw [Int.ofNat_tmod, show ((x.toNat : Nat) : Int) = x by omega, show ((n.toNat : Nat) : Int) = n by omega]
      have := Nat.mod_le x.toNat n.toNat
      omega
    have e3 : x.tmod n < n := Int.tmod_lt_of_pos x (by omega)
    exact Wi.remI (by omega) (hQ _ _ h2 ⟨e1, by omega⟩ fun _ => e3)
  refine Wl.lenH hc1 (Wi.lssC (fun hlt => Wi.tru ?_) fun hge => Wi.fls (fin _ _ h1' (by omega) (by omega)))
  have hac : a < code.length := by omega
  refine Wi.nilP (Wi.fieldAddr (Wi.get k1 rfl (Wi.nilP (Wi.fieldAddr (Wi.get k1 rfl ?_)))))
  refine Wl.at1H (r := Rd.u8) rfl hc1 hac fun u hu => ?_
  obtain ⟨_, hu⟩ := hu
  obtain ⟨_, hu, hx1, hx2⟩ := hu
  simp only [List.cons.injEq, and_true] at hu
  subst hu
  refine Wi.convI (by unfold I64; omega) (Wi.add (by unfold I64; omega) (Wi.nilP (Wi.fieldAddr (Wi.get k1 rfl (Wi.add (by unfold I64; omega) (Wi.nilP (Wi.fieldAddr (Wi.put k1 rfl rfl (by simp) fun H2 w2 => ?_))))))))
  have k2 : H2.blk b = some ⟨[vc, .int .i64 ((a : Int) + 1), .int .u64 c2], ty, e, false⟩ := w2.here
  refine fin _ _ (up H2 (by rw [w2.next, w1.next]; exact Nat.le_refl _) (fun c _ hcb => (w2.off c hcb).trans (w1.off c hcb)) ⟨a + 1, c2, ty, e, by rw [k2]; rfl, hac⟩) (by omega) (by omega)

theorem fn70 {vl : Value} {l : List Int} (h : Ab.Loc H0 L H) (hi : L[i]? = some (.src b vc code)) (hl : ∀ H, Ab.Loc H0 L H → Has RS H [vl] l) (h0 : 0 < l.length) (hQ : ∀ H' (x : Int), Ab.Loc H0 L H' → x ∈ l → Q (.int .i64 x) H') : Runs Tryz.prog 70 #[pt b 0, vl] H Q := by
  refine f70.enter (Wl.lenH (hl H h) (Wi.call (fn47 h hi fun H x h hx hn => ?_)))
  have hlt := hn (by omega)
  obtain ⟨j, rfl⟩ : ∃ j : Nat, x = (j : Int) := ⟨x.toNat, by omega⟩
  exact Wl.atIntH (hl H h) (i := j) (by omega) fun _ => hQ _ _ h (List.getElem_mem _)

theorem fn84 {most : Int} (h : Ab.Loc H0 L H) (hi : L[i]? = some (.src b vc code)) (hm : 0 ≤ most ∧ most ≤ 100) (hQ : ∀ H' (x : Int), Ab.Loc H0 L H' → x.natAbs ≤ most.toNat → Q (.int .i64 x) H') : Runs Tryz.prog 84 #[pt b 0, .int .i64 most] H Q := by
  refine f84.enter (Wi.mul (by unfold I64; omega) (Wi.add (by unfold I64; omega) (Wi.call (fn47 h hi fun H x h hx hn => ?_))))
  have := hn (by omega)
  exact Wi.sub (by unfold I64; omega) (hQ _ _ h (by omega))

/-- Rows of so many numbers, bounded. -/
def Small (n m : Nat) (xs : List (List Int)) : Prop := ∀ r ∈ xs, r.length = n ∧ ∀ x ∈ r, x.natAbs ≤ m

theorem fn105 {n : Nat} {most : Int} (h : Ab.Loc H0 L H) (hi : L[i]? = some (.src b vc code)) (hn : n ≤ 5) (hm : 0 ≤ most ∧ most ≤ 100) (hQ : ∀ H' u (m : List (List Int)), Ab.Loc H0 (.data RSS [u] m :: L) H' → m.length = n → Small n most.toNat m → Q u H') :
    Runs Tryz.prog 105 #[pt b 0, .int .i64 (n : Nat), .int .i64 most] H Q := by
  refine f105.enter ?_
  unfold f105.w
  refine Wl.lit0 (ty := 25) RS rfl h fun H u h => ?_
  refine W.for_rule n (fun x st H => ∃ u m, st = (u, .int .i64 (x : Nat), ()) ∧ m.length = x ∧ Small n most.toNat m ∧ Ab.Loc H0 (.grow RS 25 u m :: L) H) ⟨u, [], rfl, rfl, (fun r hr => by cases hr), h⟩ ?_
  rintro x st H J hx ⟨u, m, rfl, hml, hsm, h⟩ hJ
  refine Wi.lssC (fun hlt => Wi.tru ?_) fun hge => Wi.fls ?_
  · have hxn : x < n := by omega
    refine Wl.lit0 (ty := 2) Rd.int rfl h fun H w h => ?_
    refine W.for_rule n (fun y st H => ∃ w r, st = (w, .int .i64 (y : Nat), ()) ∧ r.length = y ∧ (∀ z ∈ r, z.natAbs ≤ most.toNat) ∧ Ab.Loc H0 (.grow Rd.int 2 w r :: .grow RS 25 u m :: L) H) ⟨w, [], rfl, rfl, (fun r hr => by cases hr), h⟩ ?_
    rintro y st H J2 hy ⟨w, r, rfl, hrl, hrs, h⟩ hJ2
    refine Wi.lssC (fun hlt2 => Wi.tru ?_) fun hge2 => Wi.fls ?_
    · have hyn : y < n := by omega
      refine Wi.call (fn84 (i := i + 2) h (by simpa using hi) hm fun H z h hz => ?_)
      refine Wl.litN [0, 1, 1] rfl (by decide) (by simp [I64]) rfl h fun H vl h => Wi.call (fn70 (i := i + 3) h (by simpa using hi) (fun H h => h.rd (cs := [vl])) (by decide) fun H t h ht => ?_)
      have ht : t = 0 ∨ t = 1 := by simp at ht; omega
      have hzt : (z * t).natAbs ≤ most.toNat := by rcases ht with rfl | rfl <;> simp <;> omega
      refine Wi.mul (by unfold I64; omega) (Wl.pushP (r := Rd.int) (x := z * t) (i := 1) rfl rfl rfl (fun _ => ⟨rfl, rfl, by unfold I64; omega⟩) h (by omega) fun H w' h => Wi.add (by unfold I64; omega) (hJ2 _ _ hyn ⟨w', r ++ [z * t], rfl, by simp; omega, fun q hq => ?_, h.tl⟩))
      rcases List.mem_append.1 hq with hq | hq
      · exact hrs q hq
      · rw [List.mem_singleton] at hq; rw [hq]; exact hzt
    · have hyn : y = n := by omega
      have h := h.asData (i := 0) rfl
      have hcu := (h.rd (cs := [w]) (r := RS)).one
      refine Wl.pushO (r := RS) (u := w) (x := r) (i := 1) (j := 0) (L2 := fun v' => .data RS [w] r :: .grow RS 25 v' (m ++ [r]) :: L) (L3 := fun v' => .emp :: .grow RS 25 v' (m ++ [r]) :: L) rfl h (by decide) hcu (by omega) fun H u' h => Wi.add (by unfold I64; omega) (hJ _ _ hxn ⟨u', m ++ [r], rfl, by simp; omega, fun q hq => ?_, h.tl⟩)
      rcases List.mem_append.1 hq with hq | hq
      · exact hsm q hq
      · rw [List.mem_singleton] at hq; rw [hq]; exact ⟨by omega, hrs⟩
  · exact hQ _ _ _ (h.asData (i := 0) rfl) (by omega) hsm


end

theorem fn45 {H0 H : Heap} {L : List (Atom H0.next)} {Q : Post} {vc : Value} {code : List Int} (hc0 : Has RBytes H0 [vc] code) (h : Ab.Loc H0 L H) (hQ : ∀ H' b, Ab.Loc H0 (.src b vc code :: L) H' → Q (pt b 0) H') : Runs Tryz.prog 45 #[vc] H Q := by
  have hc := hc0.le h.le
  have hsm := hc.small
  refine f45.enter ?_
  unfold f45.w
  refine Wl.lenH hc (Wi.convU fun c1 => Wi.addU fun c2 => Wi.build (cells := [vc, .int .i64 0, .int .u64 c2]) (by have e : cellsA (.int .u64 c2) = some [.int .u64 c2] := rfl; simp [fillA, hc.one, e]) ?_)
  refine Wl.box h fun H b h => ?_
  have h : Ab.Loc H0 (.src b vc code :: L) H := h.as (i := 0) rfl fun bs hb => by
    obtain ⟨h1, h2, ty, e, h3⟩ := hb
    obtain ⟨bs2, hr2⟩ := hc0
    exact ⟨bs, ⟨h1, h2, ⟨0, c2, ty, e, h3, Nat.zero_le _⟩, bs2, Rd.le _ hr2 h.le, fun c hc => Rd.low _ hr2 c hc⟩, fun c hc => hc⟩
  refine W.for_rule code.length (fun x st H => st = (.int .i64 (x : Nat), ()) ∧ Ab.Loc H0 (.src b vc code :: L) H) ⟨rfl, h⟩ ?_
  rintro x st H J hx ⟨rfl, h⟩ hJ
  obtain ⟨a, hh, ty, e, hk, ha, hcH, hb0, up⟩ := h.src (i := 0) rfl
  refine Wl.lenH hcH (Wi.lssC (fun hlt => ?_) fun hge => ?_)
  · simp only [gw]
    generalize (4096 : Int) = top
    refine Wi.lssC (fun h4 => ?_) fun h4 => ?_
    · simp only [gw]
      have hxc : x < code.length := by omega
      refine Wi.nilP (Wi.fieldAddr (Wi.get hk rfl (Wi.mulU fun c3 => Wl.at1H (r := Rd.u8) rfl hcH hxc fun u hu => ?_)))
      obtain ⟨_, hu⟩ := hu
      obtain ⟨_, hu, _, _⟩ := hu
      simp only [List.cons.injEq, and_true] at hu
      subst hu
      refine Wi.convU fun c4 => Wi.addU fun c5 => Wi.addU fun c6 => Wi.nilP (Wi.fieldAddr (Wi.put hk rfl rfl (by simp) fun H1 w1 => Wi.add (by unfold I64; omega) (hJ _ _ hxc ⟨rfl, ?_⟩)))
      exact up H1 (by rw [w1.next]; exact Nat.le_refl _) (fun c _ hcb => w1.off c hcb) ⟨a, c6, ty, e, w1.here, ha⟩
    · simp only [gw]
      exact hQ _ _ h
  · simp only [gw]
    exact hQ _ _ h

end Go.Proofs.YtdchibdcfdbcpaaGreat
/-! The contract of l09Rows. No condition. -/
namespace Go.Proofs.YtdchibdcfdbcpaaGreat
open Go.Ab

/- loop.example/g01343/spec.l09Rows -/
def f78.l1 (Q : Post) (rows_0 : Value) (I1 : St [3, 4] → Heap → Prop) (out_3 : Value) (i_4 : Value) (H : Heap) : Prop :=
  W.len rows_0 H fun v2 H =>
  W.bin .lss i_4 v2 H fun v3 H =>
  W.cond v3 H
  (fun H => W.indexAddr 1 rows_0 i_4 H fun v4 H =>
   W.get v4 H fun v5 H =>
   W.call Tryz.prog (.func (.func 79) #[] #[]) #[v5] H fun v6 H =>
   W.lit 1 [(.slice none 0 0)] 25 [(0, 1, v6)] H fun v7 H =>
   W.append 1 25 out_3 v7 H fun v8 H =>
   W.bin .add i_4 (.int .i64 1) H fun v9 H =>
   I1 (v8, v9, ()) H)
  (fun H => Q out_3 H)
def f78.w (Q : Post) (rows_0 : Value) (H : Heap) : Prop :=
  W.lit 0 [(.slice none 0 0)] 25 [] H fun v1 H =>
  W.loop (S := St [3, 4]) (fun I1 s H => f78.l1 Q rows_0 I1 s.1 s.2.1 H) (v1, (.int .i64 0), ()) H
theorem f78.enter {Q : Post} {rows_0 : Value} {H : Heap} (h : f78.w Q rows_0 H) : Runs Tryz.prog 78 #[rows_0] H Q :=
  fn_enter (ann := [(3, [3, 4])]) (by kernel_rfl) Tryz.func78 rfl (by kernel_rfl) h (by kernel_rfl)


theorem fn78 {H0 : Heap} {Q : Post} {v : Value} {m : List (List Int)} (hr : Has RSS H0 [v] m) (hm : okRows m) (hQ : ∀ H' u, FreshG RS 25 H0 u m H' → Q u H') : Runs Tryz.prog 78 #[v] H0 Q := by
  refine f78.enter (Wl.lit0 RS rfl ((Loc.start H0).lent hr) fun H u h => ?_)
  refine W.for_rule m.length (fun i s H => ∃ u, s = (u, .int .i64 (i : Nat), ()) ∧ Ab.Loc H0 [.grow RS 25 u (m.take i), .lent RSS [v] m] H) ⟨_, rfl, h⟩ ?_
  rintro i s H J hi ⟨u, rfl, h⟩ hJ
  have := hm.1
  refine Wl.len h (Wi.lssC (fun hlt => Wi.tru ?_) fun hge => Wi.fls ?_)
  · have hix : i < m.length := by omega
    refine Wl.at1 rfl h hix fun w hw => Wi.call (fn79 hw (by have := hm.2 _ (List.getElem_mem hix); omega) fun H2 u2 f => ?_)
    refine Wl.pushF rfl h f.fresh f.fresh.read.one (by simp; omega) fun H3 v' h => Wi.add (by unfold I64; omega) (hJ _ _ hix ⟨v', rfl, ?_⟩)
    rw [List.take_succ_eq_append_getElem hix]
    exact h
  · have : i = m.length := by omega
    subst this
    rw [List.take_length] at h
    exact hQ _ _ (h.retGG (i := 0) rfl)

end Go.Proofs.YtdchibdcfdbcpaaGreat

/-! The contracts of l09Minus, l09Zeros, l09Linear and the reference's DualProgram. No condition. -/
namespace Go.Proofs.YtdchibdcfdbcpaaGreat
open Go.Ab

/- loop.example/g01343/spec.l09Minus -/
/- loop.example/g01343/spec.l09Zeros -/
/- loop.example/g01343/spec.l09Linear -/
/- loop.example/g01343/spec.DualProgram -/
end Go.Proofs.YtdchibdcfdbcpaaGreat

/-! Draws: programs. No condition. -/
namespace Go.Proofs.YtdchibdcfdbcpaaGreat
open Go.Ab

/- loop.example/g01343/spec.l09DrawOf -/
def f46.j1 (Q : Post) (row_9 : Value) (k_10 : Value) (I2 : St [9, 10] → Heap → Prop) (sum_11' : Value) (H : Heap) : Prop :=
  W.lit 1 [(.int .i64 0)] 2 [(0, 1, sum_11')] H fun v30 H =>
  W.append 1 2 row_9 v30 H fun v31 H =>
  W.bin .add k_10 (.int .i64 1) H fun v32 H =>
  I2 (v31, v32, ()) H
def f46.j2 (Q : Post) (row_9 : Value) (k_10 : Value) (I2 : St [9, 10] → Heap → Prop) (sum_11'' : Value) (H : Heap) : Prop :=
  f46.j1 Q row_9 k_10 I2 sum_11'' H
def f46.l3 (Q : Post) (v3 : Value) (v13 : Value) (i_8 : Value) (k_10 : Value) (v9 : Value) (row_9 : Value) (I2 : St [9, 10] → Heap → Prop) (I3 : St [11, 12] → Heap → Prop) (sum_11 : Value) (j_12 : Value) (H : Heap) : Prop :=
  W.bin .lss j_12 v3 H fun v17 H =>
  W.cond v17 H
  (fun H => W.indexAddr 1 v13 i_8 H fun v18 H =>
   W.get v18 H fun v19 H =>
   W.indexAddr 1 v19 j_12 H fun v20 H =>
   W.get v20 H fun v21 H =>
   W.indexAddr 1 v13 k_10 H fun v22 H =>
   W.get v22 H fun v23 H =>
   W.indexAddr 1 v23 j_12 H fun v24 H =>
   W.get v24 H fun v25 H =>
   W.bin .mul v21 v25 H fun v26 H =>
   W.bin .add sum_11 v26 H fun v27 H =>
   W.bin .add j_12 (.int .i64 1) H fun v28 H =>
   I3 (v27, v28, ()) H)
  (fun H => W.bin .eql v9 (.int .i64 0) H fun v29 H =>
   W.cond v29 H
   (fun H => f46.j1 Q row_9 k_10 I2 (.int .i64 0) H)
   (fun H => W.bin .eql v9 (.int .i64 1) H fun v33 H =>
    W.cond v33 H
    (fun H => W.indexAddr 1 v13 i_8 H fun v34 H =>
     W.get v34 H fun v35 H =>
     W.indexAddr 1 v35 k_10 H fun v36 H =>
     W.get v36 H fun v37 H =>
     W.indexAddr 1 v13 k_10 H fun v38 H =>
     W.get v38 H fun v39 H =>
     W.indexAddr 1 v39 i_8 H fun v40 H =>
     W.get v40 H fun v41 H =>
     W.bin .add v37 v41 H fun v42 H =>
     f46.j2 Q row_9 k_10 I2 v42 H)
    (fun H => f46.j2 Q row_9 k_10 I2 sum_11 H)))
def f46.l2 (Q : Post) (v3 : Value) (v13 : Value) (i_8 : Value) (v9 : Value) (v10 : Value) (s_0 : Value) (I1 : St [8] → Heap → Prop) (I2 : St [9, 10] → Heap → Prop) (row_9 : Value) (k_10 : Value) (H : Heap) : Prop :=
  W.bin .lss k_10 v3 H fun v16 H =>
  W.cond v16 H
  (fun H => W.loop (S := St [11, 12]) (fun I3 s H => f46.l3 Q v3 v13 i_8 k_10 v9 row_9 I2 I3 s.1 s.2.1 H) ((.int .i64 0), (.int .i64 0), ()) H)
  (fun H => W.fieldAddr 0 v10 H fun v43 H =>
   W.get v43 H fun v44 H =>
   W.lit 1 [(.slice none 0 0)] 25 [(0, 1, row_9)] H fun v45 H =>
   W.append 1 25 v44 v45 H fun v46 H =>
   W.fieldAddr 0 v10 H fun v47 H =>
   W.put v47 v46 H fun _ H =>
   W.fieldAddr 1 v10 H fun v48 H =>
   W.get v48 H fun v49 H =>
   W.lit 3 [(.int .i64 0)] 2 [(0, 1, (.int .i64 3)), (1, 1, (.int .i64 9)), (2, 1, (.int .i64 100))] H fun v50 H =>
   W.call Tryz.prog (.func (.func 70) #[] #[]) #[s_0, v50] H fun v51 H =>
   W.chk (fun H k => W.get v48 H k) v49 H (W.call Tryz.prog (.func (.func 84) #[] #[]) #[s_0, v51] H fun v52 H =>
   W.chk (fun H k => W.get v48 H k) v49 H (W.lit 1 [(.int .i64 0)] 2 [(0, 1, v52)] H fun v53 H =>
   W.append 1 2 v49 v53 H fun v54 H =>
   W.fieldAddr 1 v10 H fun v55 H =>
   W.put v55 v54 H fun _ H =>
   W.bin .add i_8 (.int .i64 1) H fun v56 H =>
   I1 (v56, ()) H)))
def f46.l5 (Q : Post) (v3 : Value) (s_0 : Value) (v10 : Value) (j_13 : Value) (I4 : St [13] → Heap → Prop) (I5 : St [14, 15] → Heap → Prop) (row_14 : Value) (k_15 : Value) (H : Heap) : Prop :=
  W.bin .lss k_15 v3 H fun v59 H =>
  W.cond v59 H
  (fun H => W.lit 3 [(.int .i64 0)] 2 [(0, 1, (.int .i64 1)), (1, 1, (.int .i64 3)), (2, 1, (.int .i64 20))] H fun v60 H =>
   W.call Tryz.prog (.func (.func 70) #[] #[]) #[s_0, v60] H fun v61 H =>
   W.call Tryz.prog (.func (.func 84) #[] #[]) #[s_0, v61] H fun v62 H =>
   W.lit 1 [(.int .i64 0)] 2 [(0, 1, v62)] H fun v63 H =>
   W.append 1 2 row_14 v63 H fun v64 H =>
   W.bin .add k_15 (.int .i64 1) H fun v65 H =>
   I5 (v64, v65, ()) H)
  (fun H => W.fieldAddr 2 v10 H fun v66 H =>
   W.get v66 H fun v67 H =>
   W.lit 1 [(.slice none 0 0)] 25 [(0, 1, row_14)] H fun v68 H =>
   W.append 1 25 v67 v68 H fun v69 H =>
   W.fieldAddr 2 v10 H fun v70 H =>
   W.put v70 v69 H fun _ H =>
   W.fieldAddr 3 v10 H fun v71 H =>
   W.get v71 H fun v72 H =>
   W.lit 3 [(.int .i64 0)] 2 [(0, 1, (.int .i64 3)), (1, 1, (.int .i64 9)), (2, 1, (.int .i64 100))] H fun v73 H =>
   W.call Tryz.prog (.func (.func 70) #[] #[]) #[s_0, v73] H fun v74 H =>
   W.chk (fun H k => W.get v71 H k) v72 H (W.call Tryz.prog (.func (.func 84) #[] #[]) #[s_0, v74] H fun v75 H =>
   W.chk (fun H k => W.get v71 H k) v72 H (W.lit 1 [(.int .i64 0)] 2 [(0, 1, v75)] H fun v76 H =>
   W.append 1 2 v72 v76 H fun v77 H =>
   W.fieldAddr 3 v10 H fun v78 H =>
   W.put v78 v77 H fun _ H =>
   W.bin .add j_13 (.int .i64 1) H fun v79 H =>
   I4 (v79, ()) H)))
def f46.l4 (Q : Post) (v7 : Value) (v3 : Value) (s_0 : Value) (v10 : Value) (v1 : Value) (I4 : St [13] → Heap → Prop) (j_13 : Value) (H : Heap) : Prop :=
  W.bin .lss j_13 v7 H fun v57 H =>
  W.cond v57 H
  (fun H => W.lit 0 [(.int .i64 0)] 2 [] H fun v58 H =>
   W.loop (S := St [14, 15]) (fun I5 s H => f46.l5 Q v3 s_0 v10 j_13 I4 I5 s.1 s.2.1 H) (v58, (.int .i64 0), ()) H)
  (fun H => W.getN 4 v10 H fun v80 H =>
   W.putN 4 v1 v80 H fun _ H =>
   W.getN 4 v1 H fun v81 H => Q v81 H)
def f46.l1 (Q : Post) (v3 : Value) (v13 : Value) (v9 : Value) (v10 : Value) (s_0 : Value) (v7 : Value) (v1 : Value) (I1 : St [8] → Heap → Prop) (i_8 : Value) (H : Heap) : Prop :=
  W.bin .lss i_8 v3 H fun v14 H =>
  W.cond v14 H
  (fun H => W.lit 0 [(.int .i64 0)] 2 [] H fun v15 H =>
   W.loop (S := St [9, 10]) (fun I2 s H => f46.l2 Q v3 v13 i_8 v9 v10 s_0 I1 I2 s.1 s.2.1 H) (v15, (.int .i64 0), ()) H)
  (fun H => W.loop (S := St [13]) (fun I4 s H => f46.l4 Q v7 v3 s_0 v10 v1 I4 s.1 H) ((.int .i64 0), ()) H)
def f46.w (Q : Post) (s_0 : Value) (H : Heap) : Prop :=
  W.new [(.slice none 0 0), (.slice none 0 0), (.slice none 0 0), (.slice none 0 0)] 27 H fun v1 H =>
  W.call Tryz.prog (.func (.func 47) #[] #[]) #[s_0, (.int .i64 3)] H fun v2 H =>
  W.bin .add (.int .i64 1) v2 H fun v3 H =>
  W.bin .sub (.int .i64 5) v3 H fun v4 H =>
  W.min2 v4 (.int .i64 3) H fun v5 H =>
  W.bin .add v5 (.int .i64 1) H fun v6 H =>
  W.call Tryz.prog (.func (.func 47) #[] #[]) #[s_0, v6] H fun v7 H =>
  W.build [(.slice none 0 0), (.slice none 0 0), (.slice none 0 0), (.slice none 0 0)] [] H fun v8 H =>
  W.call Tryz.prog (.func (.func 47) #[] #[]) #[s_0, (.int .i64 5)] H fun v9 H =>
  W.new [(.slice none 0 0), (.slice none 0 0), (.slice none 0 0), (.slice none 0 0)] 27 H fun v10 H =>
  W.putN 4 v10 v8 H fun _ H =>
  W.lit 2 [(.int .i64 0)] 2 [(0, 1, (.int .i64 1)), (1, 1, (.int .i64 2))] H fun v11 H =>
  W.call Tryz.prog (.func (.func 70) #[] #[]) #[s_0, v11] H fun v12 H =>
  W.call Tryz.prog (.func (.func 105) #[] #[]) #[s_0, v3, v12] H fun v13 H =>
  W.loop (S := St [8]) (fun I1 s H => f46.l1 Q v3 v13 v9 v10 s_0 v7 v1 I1 s.1 H) ((.int .i64 0), ()) H
theorem f46.enter {Q : Post} {s_0 : Value} {H : Heap} (h : f46.w Q s_0 H) : Runs Tryz.prog 46 #[s_0] H Q :=
  fn_enter (ann := [(6, [8]), (10, [9, 10]), (14, [11, 12]), (1000024, []), (26, [13]), (30, [14, 15]), (1000034, [])]) (by kernel_rfl) Tryz.func46 rfl (by kernel_rfl) h (by kernel_rfl)

/- loop.example/g01343/spec.l09Bad -/
def f49.j1 (Q : Post) (v1 : Value) (v2 : Value) (H : Heap) : Prop :=
  W.getN 4 v1 H fun v14 H =>
  W.putN 4 v2 v14 H fun _ H =>
  W.getN 4 v2 H fun v15 H => Q v15 H
def f49.j2 (Q : Post) (v1 : Value) (v2 : Value) (H : Heap) : Prop :=
  f49.j1 Q v1 v2 H
def f49.j3 (Q : Post) (v1 : Value) (v2 : Value) (H : Heap) : Prop :=
  f49.j2 Q v1 v2 H
def f49.w (Q : Post) (s_0 : Value) (p_1 : Value) (H : Heap) : Prop :=
  W.box p_1 27 H fun v1 H =>
  W.new [(.slice none 0 0), (.slice none 0 0), (.slice none 0 0), (.slice none 0 0)] 27 H fun v2 H =>
  W.call Tryz.prog (.func (.func 47) #[] #[]) #[s_0, (.int .i64 50)] H fun v3 H =>
  W.bin .eql v3 (.int .i64 0) H fun v4 H =>
  W.cond v4 H
  (fun H => W.build [(.slice none 0 0), (.slice none 0 0), (.slice none 0 0), (.slice none 0 0)] [] H fun v5 H =>
   W.putN 4 v2 v5 H fun _ H =>
   W.getN 4 v2 H fun v6 H => Q v6 H)
  (fun H => W.bin .eql v3 (.int .i64 1) H fun v7 H =>
   W.cond v7 H
   (fun H => W.fieldAddr 1 v1 H fun v8 H =>
    W.get v8 H fun v9 H =>
    W.call Tryz.prog (.func (.func 79) #[] #[]) #[v9] H fun v10 H =>
    W.lit 1 [(.int .i64 0)] 2 [(0, 1, (.int .i64 0))] H fun v11 H =>
    W.append 1 2 v10 v11 H fun v12 H =>
    W.fieldAddr 1 v1 H fun v13 H =>
    W.put v13 v12 H fun _ H =>
    f49.j1 Q v1 v2 H)
   (fun H => W.bin .eql v3 (.int .i64 2) H fun v16 H =>
    W.cond v16 H
    (fun H => W.fieldAddr 0 v1 H fun v17 H =>
     W.get v17 H fun v18 H =>
     W.call Tryz.prog (.func (.func 78) #[] #[]) #[v18] H fun v19 H =>
     W.fieldAddr 0 v1 H fun v20 H =>
     W.put v20 v19 H fun _ H =>
     W.fieldAddr 0 v1 H fun v21 H =>
     W.get v21 H fun v22 H =>
     W.fieldAddr 0 v1 H fun v23 H =>
     W.get v23 H fun v24 H =>
     W.len v24 H fun v25 H =>
     W.bin .sub v25 (.int .i64 1) H fun v26 H =>
     W.indexAddr 1 v22 v26 H fun v27 H =>
     W.get v27 H fun v28 H =>
     W.indexAddr 1 v28 (.int .i64 0) H fun v29 H =>
     W.get v29 H fun v30 H =>
     W.lit 2 [(.int .i64 0)] 2 [(0, 1, (.int .i64 1)), (1, 1, (.int .i64 30))] H fun v31 H =>
     W.call Tryz.prog (.func (.func 70) #[] #[]) #[s_0, v31] H fun v32 H =>
     W.chk (fun H k => W.get v29 H k) v30 H (W.bin .add v30 v32 H fun v33 H =>
     W.indexAddr 1 v28 (.int .i64 0) H fun v34 H =>
     W.put v34 v33 H fun _ H =>
     f49.j2 Q v1 v2 H))
    (fun H => W.bin .eql v3 (.int .i64 3) H fun v35 H =>
     W.cond v35 H
     (fun H => W.fieldAddr 3 v1 H fun v36 H =>
      W.get v36 H fun v37 H =>
      W.call Tryz.prog (.func (.func 79) #[] #[]) #[v37] H fun v38 H =>
      W.lit 1 [(.int .i64 0)] 2 [(0, 1, (.int .i64 0))] H fun v39 H =>
      W.append 1 2 v38 v39 H fun v40 H =>
      W.fieldAddr 3 v1 H fun v41 H =>
      W.put v41 v40 H fun _ H =>
      f49.j3 Q v1 v2 H)
     (fun H => f49.j3 Q v1 v2 H))))
theorem f49.enter {Q : Post} {s_0 : Value} {p_1 : Value} {H : Heap} (h : f49.w Q s_0 p_1 H) : Runs Tryz.prog 49 #[s_0, p_1] H Q :=
  fn_enter (ann := [(1000009, [])]) (by kernel_rfl) Tryz.func49 rfl (by kernel_rfl) h (by kernel_rfl)

/- loop.example/g01343/spec.l09Draw -/
def f69.w (Q : Post) (s_0 : Value) (H : Heap) : Prop :=
  W.new [(.slice none 0 0), (.slice none 0 0), (.slice none 0 0), (.slice none 0 0)] 27 H fun v1 H =>
  W.call Tryz.prog (.func (.func 46) #[] #[]) #[s_0] H fun v2 H =>
  W.call Tryz.prog (.func (.func 49) #[] #[]) #[s_0, v2] H fun v3 H =>
  W.putN 4 v1 v3 H fun _ H =>
  W.getN 4 v1 H fun v4 H => Q v4 H
theorem f69.enter {Q : Post} {s_0 : Value} {H : Heap} (h : f69.w Q s_0 H) : Runs Tryz.prog 69 #[s_0] H Q :=
  fn_enter (ann := []) (by kernel_rfl) Tryz.func69 rfl (by kernel_rfl) h (by kernel_rfl)

/- loop.example/g01343/spec.DrawDualProgram -/
/- loop.example/g01343/spec.DrawScaleProgram -/
/- loop.example/g01343/spec.DrawAddPrograms -/
/- loop.example/g01343/spec.DrawLeastAlong -/
/- loop.example/g01343/spec.DrawMinimumOf -/
def f23.w (Q : Post) (code_0 : Value) (H : Heap) : Prop :=
  W.new [(.slice none 0 0), (.slice none 0 0), (.slice none 0 0), (.slice none 0 0)] 27 H fun v1 H =>
  W.call Tryz.prog (.func (.func 45) #[] #[]) #[code_0] H fun v2 H =>
  W.call Tryz.prog (.func (.func 69) #[] #[]) #[v2] H fun v3 H =>
  W.putN 4 v1 v3 H fun _ H =>
  W.getN 4 v1 H fun v4 H => Q v4 H
theorem f23.enter {Q : Post} {code_0 : Value} {H : Heap} (h : f23.w Q code_0 H) : Runs Tryz.prog 23 #[code_0] H Q :=
  fn_enter (ann := []) (by kernel_rfl) Tryz.func23 rfl (by kernel_rfl) h (by kernel_rfl)

/- loop.example/g01343/spec.DrawProgramProblem -/
def f34.w (Q : Post) (code_0 : Value) (H : Heap) : Prop :=
  W.new [(.slice none 0 0), (.slice none 0 0), (.slice none 0 0), (.slice none 0 0)] 27 H fun v1 H =>
  W.call Tryz.prog (.func (.func 45) #[] #[]) #[code_0] H fun v2 H =>
  W.call Tryz.prog (.func (.func 69) #[] #[]) #[v2] H fun v3 H =>
  W.putN 4 v1 v3 H fun _ H =>
  W.getN 4 v1 H fun v4 H => Q v4 H
theorem f34.enter {Q : Post} {code_0 : Value} {H : Heap} (h : f34.w Q code_0 H) : Runs Tryz.prog 34 #[code_0] H Q :=
  fn_enter (ann := []) (by kernel_rfl) Tryz.func34 rfl (by kernel_rfl) h (by kernel_rfl)


/-- A program of a size that is not too large. -/
def SmallG (p : Prg) : Prop := p.1.length ≤ 6 ∧ (∀ r ∈ p.1, r.length ≤ 6) ∧ p.2.1.length ≤ 6 ∧ p.2.2.1.length ≤ 6 ∧ (∀ r ∈ p.2.2.1, r.length ≤ 6) ∧ p.2.2.2.length ≤ 6

theorem SmallG.w {p : Prg} (h : SmallG p) : wPrg p ≤ 1048576 := by
  obtain ⟨h1, h2, h3, h4, h5, h6⟩ := h
  have e1 := szl_le (w := List.length) (c := 6) p.1 h2
  have e2 := szl_le (w := List.length) (c := 6) p.2.2.1 h5
  simp only [szp, wl]
  omega

/-- What is drawn: n variables, m rows. -/
structure IsNM (n m : Nat) (p : Prg) : Prop where
  n1 : 1 ≤ n ∧ n ≤ 3
  m1 : m ≤ 3
  d : p.1.length = n
  dr : ∀ r ∈ p.1, r.length = n ∧ ∀ x ∈ r, x.natAbs ≤ 100
  c : p.2.1.length = n
  a : p.2.2.1.length = m
  ar : ∀ r ∈ p.2.2.1, r.length = n
  b : p.2.2.2.length = m

theorem IsNM.small {n m : Nat} {p : Prg} (h : IsNM n m p) : SmallG p := by
  obtain ⟨h1, h2, h3, h4, h5, h6, h7, h8⟩ := h
  exact ⟨by omega, fun r hr => by have := (h4 r hr).1; omega, by omega, by omega, fun r hr => by have := h7 r hr; omega, by omega⟩

section
variable {H0 H : Heap} {L : List (Atom H0.next)} {Q : Post} {b i : Nat} {vc : Value} {code : List Int}

theorem split4 {u1 u2 u3 u4 : Value} {p : Prg} (h : Ab.Loc H0 (.data RPrg [u1, u2, u3, u4] p :: L) H) : Ab.Loc H0 (.data RSS [u1] p.1 :: .data RS [u2] p.2.1 :: .data RSS [u3] p.2.2.1 :: .data RS [u4] p.2.2.2 :: L) H := by
  have h := h.unpair (r := RSS) (s := Rd.pair RS (Rd.pair RSS RS)) (c1 := [u1]) (c2 := [u2, u3, u4]) (x := p.1) (y := p.2) rfl
  have h : Ab.Loc H0 (.data (Rd.pair RS (Rd.pair RSS RS)) [u2, u3, u4] p.2 :: .data RSS [u1] p.1 :: L) H := h.front 1 rfl
  have h := h.unpair (r := RS) (s := Rd.pair RSS RS) (c1 := [u2]) (c2 := [u3, u4]) (x := p.2.1) (y := p.2.2) rfl
  have h : Ab.Loc H0 (.data (Rd.pair RSS RS) [u3, u4] p.2.2 :: .data RS [u2] p.2.1 :: .data RSS [u1] p.1 :: L) H := h.front 1 rfl
  have h := h.unpair (r := RSS) (s := RS) (c1 := [u3]) (c2 := [u4]) (x := p.2.2.1) (y := p.2.2.2) rfl
  have h : Ab.Loc H0 (.data RS [u2] p.2.1 :: .data RSS [u3] p.2.2.1 :: .data RS [u4] p.2.2.2 :: .data RSS [u1] p.1 :: L) H := h.front 2 rfl
  exact h.front 3 rfl

theorem join4 {u1 u2 u3 u4 : Value} {p : Prg} (h : Ab.Loc H0 (.data RSS [u1] p.1 :: .data RS [u2] p.2.1 :: .data RSS [u3] p.2.2.1 :: .data RS [u4] p.2.2.2 :: L) H) : Ab.Loc H0 (.data RPrg [u1, u2, u3, u4] p :: L) H := by
  have h := h.pair (i := 2) (j := 3) rfl rfl (by decide)
  have h : Ab.Loc H0 (.data RSS [u1] p.1 :: .data RS [u2] p.2.1 :: .data (Rd.pair RSS RS) [u3, u4] p.2.2 :: .emp :: L) H := h
  have h := h.pair (i := 1) (j := 2) rfl rfl (by decide)
  have h : Ab.Loc H0 (.data RSS [u1] p.1 :: .data (Rd.pair RS (Rd.pair RSS RS)) [u2, u3, u4] p.2 :: .emp :: .emp :: L) H := h
  have h := h.pair (i := 0) (j := 1) rfl rfl (by decide)
  have h : Ab.Loc H0 (.data RPrg [u1, u2, u3, u4] p :: .emp :: .emp :: .emp :: L) H := h
  exact ((h.cut 1).cut 1).cut 1

abbrev nil4 : List Value := [.slice none 0 0, .slice none 0 0, .slice none 0 0, .slice none 0 0]

abbrev noPrg : Prg := ([], [], [], [])

theorem nilPr (h : Ab.Loc H0 L H) : Ab.Loc H0 (.data RPrg nil4 noPrg :: L) H := by
  have h := (h.nilG Rd.int 2).asData (i := 0) rfl
  have h : Ab.Loc H0 (.data RS [.slice none 0 0] [] :: L) H := h
  have h := (h.nilG RS 25).asData (i := 0) rfl
  have h : Ab.Loc H0 (.data RSS [.slice none 0 0] [] :: .data RS [.slice none 0 0] [] :: L) H := h
  have h := (h.nilG Rd.int 2).asData (i := 0) rfl
  have h : Ab.Loc H0 (.data RS [.slice none 0 0] [] :: .data RSS [.slice none 0 0] [] :: .data RS [.slice none 0 0] [] :: L) H := h
  have h := (h.nilG RS 25).asData (i := 0) rfl
  have h : Ab.Loc H0 (.data RSS [.slice none 0 0] noPrg.1 :: .data RS [.slice none 0 0] noPrg.2.1 :: .data RSS [.slice none 0 0] noPrg.2.2.1 :: .data RS [.slice none 0 0] noPrg.2.2.2 :: L) H := h
  exact join4 (p := noPrg) h

theorem cells4 {u1 u2 u3 u4 : Value} {p : Prg} (h : Ab.Loc H0 (.data RSS [u1] p.1 :: .data RS [u2] p.2.1 :: .data RSS [u3] p.2.2.1 :: .data RS [u4] p.2.2.2 :: L) H) : [u1, u2, u3, u4].all isCell = true := by
  have k1 := (h.rd (cs := [u1]) (r := RSS) (x := p.1)).cell1
  have k2 := (h.rd (cs := [u2]) (r := RS) (x := p.2.1)).cell1
  have k3 := (h.rd (cs := [u3]) (r := RSS) (x := p.2.2.1)).cell1
  have k4 := (h.rd (cs := [u4]) (r := RS) (x := p.2.2.2)).cell1
  simp [k1, k2, k3, k4]

/-- The rows of A, and B. -/
theorem drawPr_end {n m b10 b1 : Nat} {u1 u2 : Value} {D : List (List Int)} {C : List Int} (h : Ab.Loc H0 (.box b10 [u1, u2, .slice none 0 0, .slice none 0 0] :: .grow RS 25 u1 D :: .grow Rd.int 2 u2 C :: .box b1 nil4 :: L) H)
    (hi : L[i]? = some (.src b vc code)) (hn : 1 ≤ n ∧ n ≤ 3) (hm : m ≤ 3) (hD : D.length = n) (hDr : ∀ r ∈ D, r.length = n ∧ ∀ x ∈ r, x.natAbs ≤ 100) (hC : C.length = n)
    (hQ : ∀ H' u1 u2 u3 u4 p n m, Ab.Loc H0 (.data RPrg [u1, u2, u3, u4] p :: L) H' → IsNM n m p → Q (.agg #[u1, u2, u3, u4]) H') :
    W.loop (S := St [13]) (fun I4 s H => f46.l4 Q (.int .i64 (m : Nat)) (.int .i64 (n : Nat)) (pt b 0) (pt b10 0) (pt b1 0) I4 s.1 H) ((.int .i64 0), ()) H := by
  have h : Ab.Loc H0 (.box b10 [u1, u2, .slice none 0 0, .slice none 0 0] :: .grow RS 25 (.slice none 0 0) [] :: .grow Rd.int 2 (.slice none 0 0) [] :: .grow RS 25 u1 D :: .grow Rd.int 2 u2 C :: .box b1 nil4 :: L) H := ((h.nilG Rd.int 2).nilG RS 25).front 2 rfl
  refine W.for_rule m (fun y st H => ∃ u3 u4 A B, st = (.int .i64 (y : Nat), ()) ∧ A.length = y ∧ (∀ r ∈ A, r.length = n) ∧ B.length = y ∧ Ab.Loc H0 (.box b10 [u1, u2, u3, u4] :: .grow RS 25 u3 A :: .grow Rd.int 2 u4 B :: .grow RS 25 u1 D :: .grow Rd.int 2 u2 C :: .box b1 nil4 :: L) H) ⟨_, _, [], [], rfl, rfl, (fun r hr => by cases hr), rfl, h⟩ ?_
  rintro y st H J hy ⟨u3, u4, A, B, rfl, hA, hAr, hB, h⟩ hJ
  refine Wi.lssC (fun hlt => Wi.tru ?_) fun hge => Wi.fls ?_
  · have hym : y < m := by omega
    have hI : I64 ((y : Int) + 1) := by unfold I64; omega
    refine Wl.lit0 (ty := 2) Rd.int rfl h fun H w h => ?_
    refine W.for_rule n (fun k st H => ∃ w r, st = (w, .int .i64 (k : Nat), ()) ∧ r.length = k ∧ Ab.Loc H0 (.grow Rd.int 2 w r :: .box b10 [u1, u2, u3, u4] :: .grow RS 25 u3 A :: .grow Rd.int 2 u4 B :: .grow RS 25 u1 D :: .grow Rd.int 2 u2 C :: .box b1 nil4 :: L) H) ⟨w, [], rfl, rfl, h⟩ ?_
    rintro k st H J2 hk ⟨w, r, rfl, hr, h⟩ hJ2
    refine Wi.lssC (fun hlt2 => Wi.tru ?_) fun hge2 => Wi.fls ?_
    · have hkn : k < n := by omega
      refine Wl.litN [1, 3, 20] rfl (by decide) (by simp [I64]) rfl h fun H vl h => Wi.call (fn70 (i := i + 8) h (by simpa using hi) (fun H h => h.rd (cs := [vl])) (by decide) fun H t h ht => ?_)
      have ht : 0 ≤ t ∧ t ≤ 100 := by simp at ht; omega
      have h := h.tl
      refine Wi.call (fn84 (i := i + 7) h (by simpa using hi) ht fun H z h hz => ?_)
      refine Wl.pushP (r := Rd.int) (x := z) (i := 0) rfl rfl rfl (fun _ => ⟨rfl, rfl, by unfold I64; omega⟩) h (by omega) fun H w' h => ?_
      have h : Ab.Loc H0 (.grow Rd.int 2 w' (r ++ [z]) :: .box b10 [u1, u2, u3, u4] :: .grow RS 25 u3 A :: .grow Rd.int 2 u4 B :: .grow RS 25 u1 D :: .grow Rd.int 2 u2 C :: .box b1 nil4 :: L) H := h
      exact Wi.add (by unfold I64; omega) (hJ2 _ _ hkn ⟨w', r ++ [z], rfl, by simp; omega, h⟩)
    · have hkn : k = n := by omega
      have h := h.asData (i := 0) rfl
      have h : Ab.Loc H0 (.data RS [w] r :: .box b10 [u1, u2, u3, u4] :: .grow RS 25 u3 A :: .grow Rd.int 2 u4 B :: .grow RS 25 u1 D :: .grow Rd.int 2 u2 C :: .box b1 nil4 :: L) H := h
      have hcu := (h.rd (cs := [w]) (r := RS)).one
      refine Wi.fieldAddr (Wl.get (b := b10) (o := 2) h rfl ?_)
      refine Wl.pushO (r := RS) (u := w) (x := r) (i := 2) (j := 0) (L2 := fun v' => .data RS [w] r :: .box b10 [u1, u2, u3, u4] :: .grow RS 25 v' (A ++ [r]) :: .grow Rd.int 2 u4 B :: .grow RS 25 u1 D :: .grow Rd.int 2 u2 C :: .box b1 nil4 :: L) (L3 := fun v' => .emp :: .box b10 [u1, u2, u3, u4] :: .grow RS 25 v' (A ++ [r]) :: .grow Rd.int 2 u4 B :: .grow RS 25 u1 D :: .grow Rd.int 2 u2 C :: .box b1 nil4 :: L) rfl h (by decide) hcu (by omega) fun H u3' h => ?_
      have h : Ab.Loc H0 (.box b10 [u1, u2, u3, u4] :: .grow RS 25 u3' (A ++ [r]) :: .grow Rd.int 2 u4 B :: .grow RS 25 u1 D :: .grow Rd.int 2 u2 C :: .box b1 nil4 :: L) H := h.tl
      have k3 := (h.rd (cs := [u3']) (r := RSS)).cell1
      refine Wi.fieldAddr (Wl.put (b := b10) (o := 2) (i := 0) h k3 (by simp) fun H h => Wi.fieldAddr (Wl.get (b := b10) (o := 3) h rfl ?_))
      have h : Ab.Loc H0 (.box b10 [u1, u2, u3', u4] :: .grow RS 25 u3' (A ++ [r]) :: .grow Rd.int 2 u4 B :: .grow RS 25 u1 D :: .grow Rd.int 2 u2 C :: .box b1 nil4 :: L) H := h
      refine Wl.litN [3, 9, 100] rfl (by decide) (by simp [I64]) rfl h fun H vl h => Wi.call (fn70 (i := i + 7) h (by simpa using hi) (fun H h => h.rd (cs := [vl])) (by decide) fun H t h ht => ?_)
      have ht : 0 ≤ t ∧ t ≤ 100 := by simp at ht; omega
      have h := h.tl
      refine Wi.chk (Wl.get (b := b10) (o := 3) h rfl ⟨rfl, rfl⟩) (Wi.call (fn84 (i := i + 6) h (by simpa using hi) ht fun H z h hz => ?_))
      refine Wi.chk (Wl.get (b := b10) (o := 3) h rfl ⟨rfl, rfl⟩) (Wl.pushP (r := Rd.int) (x := z) (i := 2) rfl rfl rfl (fun _ => ⟨rfl, rfl, by unfold I64; omega⟩) h (by omega) fun H u4' h => ?_)
      have h : Ab.Loc H0 (.box b10 [u1, u2, u3', u4] :: .grow RS 25 u3' (A ++ [r]) :: .grow Rd.int 2 u4' (B ++ [z]) :: .grow RS 25 u1 D :: .grow Rd.int 2 u2 C :: .box b1 nil4 :: L) H := h
      have k4 := (h.rd (cs := [u4']) (r := RS)).cell1
      refine Wi.fieldAddr (Wl.put (b := b10) (o := 3) (i := 0) h k4 (by simp) fun H h => Wi.add hI (hJ _ _ hym ⟨u3', u4', A ++ [r], B ++ [z], rfl, by simp; omega, fun q hq => ?_, by simp; omega, h⟩))
      rcases List.mem_append.1 hq with hq | hq
      · exact hAr q hq
      · rw [List.mem_singleton] at hq; rw [hq]; omega
  · have hym : y = m := by omega
    have h := (((h.asData (i := 1) rfl).asData (i := 2) rfl).asData (i := 3) rfl).asData (i := 4) rfl
    have h : Ab.Loc H0 (.box b10 [u1, u2, u3, u4] :: .data RSS [u3] A :: .data RS [u4] B :: .data RSS [u1] D :: .data RS [u2] C :: .box b1 nil4 :: L) H := h
    have h : Ab.Loc H0 (.data RSS [u1] D :: .data RS [u2] C :: .data RSS [u3] A :: .data RS [u4] B :: .box b10 [u1, u2, u3, u4] :: .box b1 nil4 :: L) H := (((h.front 2 rfl).front 2 rfl).front 4 rfl).front 4 rfl
    have kc := cells4 (p := (D, C, A, B)) h
    refine Wl.getA (b := b10) h rfl (Wl.putA (b := b1) (i := 5) h rfl rfl kc fun H h => Wl.getA (b := b1) h rfl ?_)
    have h : Ab.Loc H0 (.data RSS [u1] D :: .data RS [u2] C :: .data RSS [u3] A :: .data RS [u4] B :: .box b10 [u1, u2, u3, u4] :: .box b1 [u1, u2, u3, u4] :: L) H := h
    have h := join4 (p := (D, C, A, B)) h
    exact hQ _ u1 u2 u3 u4 (D, C, A, B) n m ((h.cut 1).cut 1) ⟨hn, hm, hD, hDr, hC, by show A.length = m; omega, hAr, by show B.length = m; omega⟩

theorem fn46 (h : Ab.Loc H0 L H) (hi : L[i]? = some (.src b vc code)) (hQ : ∀ H' u1 u2 u3 u4 p n m, Ab.Loc H0 (.data RPrg [u1, u2, u3, u4] p :: L) H' → IsNM n m p → Q (.agg #[u1, u2, u3, u4]) H') :
    Runs Tryz.prog 46 #[pt b 0] H Q := by
  refine f46.enter ?_
  unfold f46.w
  refine Wl.new h fun H b1 h => Wi.call (fn47 (i := i + 1) h (by simpa using hi) fun H x h hx hx3 => ?_)
  have hx3 := hx3 (by decide)
  obtain ⟨n, hn⟩ : ∃ n : Nat, 1 + x = (n : Int) := ⟨(1 + x).toNat, by omega⟩
  refine Wi.add (by unfold I64; omega) ?_
  rw [hn]
  refine Wi.sub (by unfold I64; omega) (Wi.min2 ?_)
  have hmn : 0 ≤ (if (3 : Int) < 5 - (n : Nat) then (3 : Int) else 5 - (n : Nat)) ∧ (if (3 : Int) < 5 - (n : Nat) then (3 : Int) else 5 - (n : Nat)) ≤ 3 := by split <;> omega
  generalize (if (3 : Int) < 5 - (n : Nat) then (3 : Int) else 5 - (n : Nat)) = mx at *
  refine Wi.add (by unfold I64; omega) (Wi.call (fn47 (i := i + 1) h (by simpa using hi) fun H y h hy hy3 => ?_))
  have hy3 := hy3 (by omega)
  obtain ⟨m, rfl⟩ : ∃ m : Nat, y = (m : Int) := ⟨y.toNat, by omega⟩
  have hm : m ≤ 3 := by omega
  have hn3 : 1 ≤ n ∧ n ≤ 3 := by omega
  clear hn hx hx3 hy hy3 hmn
  refine Wi.build (cells := nil4) rfl (Wi.call (fn47 (i := i + 1) h (by simpa using hi) fun H kind h hk hk5 => ?_))
  refine Wl.new h fun H b10 h => Wl.putA (b := b10) h rfl rfl rfl fun H h => ?_
  have h : Ab.Loc H0 (.box b10 nil4 :: .box b1 nil4 :: L) H := h
  refine Wl.litN [1, 2] rfl (by decide) (by simp [I64]) rfl h fun H vl h => Wi.call (fn70 (i := i + 3) h (by simpa using hi) (fun H h => h.rd (cs := [vl])) (by decide) fun H t h ht => ?_)
  have ht : 0 ≤ t ∧ t ≤ 2 := by simp at ht; omega
  have h := h.tl
  refine Wi.call (fn105 (i := i + 2) h (by simpa using hi) (by omega) ⟨ht.1, by omega⟩ fun H u base h hbl hbs => ?_)
  have hbe : ∀ a (ha : a < base.length), base[a].length = n ∧ ∀ z ∈ base[a], z.natAbs ≤ 2 := fun a ha => ⟨(hbs _ (List.getElem_mem ha)).1, fun z hz => by have := (hbs _ (List.getElem_mem ha)).2 z hz; omega⟩
  have h : Ab.Loc H0 (.box b10 nil4 :: .grow RS 25 (.slice none 0 0) [] :: .grow Rd.int 2 (.slice none 0 0) [] :: .data RSS [u] base :: .box b1 nil4 :: L) H := ((h.nilG Rd.int 2).nilG RS 25).front 3 rfl
  refine W.for_rule n (fun x st H => ∃ u1 u2 D C, st = (.int .i64 (x : Nat), ()) ∧ D.length = x ∧ (∀ r ∈ D, r.length = n ∧ ∀ x ∈ r, x.natAbs ≤ 100) ∧ C.length = x ∧ Ab.Loc H0 (.box b10 [u1, u2, .slice none 0 0, .slice none 0 0] :: .grow RS 25 u1 D :: .grow Rd.int 2 u2 C :: .data RSS [u] base :: .box b1 nil4 :: L) H) ⟨_, _, [], [], rfl, rfl, (fun r hr => by cases hr), rfl, h⟩ ?_
  rintro x st H J hx ⟨u1, u2, D, C, rfl, hD, hDr, hC, h⟩ hJ
  refine Wi.lssC (fun hlt => Wi.tru ?_) fun hge => Wi.fls ?_
  · have hxn : x < n := by omega
    have hI : I64 ((x : Int) + 1) := by unfold I64; omega
    refine Wl.lit0 (ty := 2) Rd.int rfl h fun H w h => ?_
    refine W.for_rule n (fun k st H => ∃ w r, st = (w, .int .i64 (k : Nat), ()) ∧ r.length = k ∧ (∀ z ∈ r, z.natAbs ≤ 100) ∧ Ab.Loc H0 (.grow Rd.int 2 w r :: .box b10 [u1, u2, .slice none 0 0, .slice none 0 0] :: .grow RS 25 u1 D :: .grow Rd.int 2 u2 C :: .data RSS [u] base :: .box b1 nil4 :: L) H) ⟨w, [], rfl, rfl, (fun r hr => by cases hr), h⟩ ?_
    rintro k st H J2 hk2 ⟨w, r, rfl, hr, hrb, h⟩ hJ2
    have hB : Has RSS H [u] base := h.rd (cs := [u])
    refine Wi.lssC (fun hlt2 => Wi.tru ?_) fun hge2 => Wi.fls ?_
    · have hkn : k < n := by omega
      have hxb : x < base.length := by omega
      have hkb : k < base.length := by omega
      have fin : ∀ sum : Int, sum.natAbs ≤ 100 → f46.j1 Q w (.int .i64 (k : Nat)) J2 (.int .i64 sum) H := fun sum hs => by
        unfold f46.j1
        refine Wl.pushP (r := Rd.int) (x := sum) (i := 0) rfl rfl rfl (fun _ => ⟨rfl, rfl, by unfold I64; omega⟩) h (by omega) fun H w' h => ?_
        have h : Ab.Loc H0 (.grow Rd.int 2 w' (r ++ [sum]) :: .box b10 [u1, u2, .slice none 0 0, .slice none 0 0] :: .grow RS 25 u1 D :: .grow Rd.int 2 u2 C :: .data RSS [u] base :: .box b1 nil4 :: L) H := h
        refine Wi.add (by unfold I64; omega) (hJ2 _ _ hkn ⟨w', r ++ [sum], rfl, by simp; omega, fun q hq => ?_, h⟩)
        rcases List.mem_append.1 hq with hq | hq
        · exact hrb q hq
        · rw [List.mem_singleton] at hq; rw [hq]; exact hs
      refine W.for_rule n (fun j st H2 => ∃ sum : Int, H2 = H ∧ st = (.int .i64 sum, .int .i64 (j : Nat), ()) ∧ sum.natAbs ≤ 4 * j) ⟨0, rfl, rfl, by decide⟩ ?_
      rintro j st H2 J3 hj ⟨sum, rfl, rfl, hs⟩ hJ3
      refine Wi.lssC (fun hlt3 => Wi.tru ?_) fun hge3 => Wi.fls ?_
      · have hjn : j < n := by omega
        obtain ⟨g1, g2⟩ := hbe x hxb
        obtain ⟨g3, g4⟩ := hbe k hkb
        refine Wl.at1H rfl hB hxb fun p1 hp1 => Wl.atIntH hp1 (i := j) (by omega) fun _ => Wl.at1H rfl hB hkb fun p2 hp2 => Wl.atIntH hp2 (i := j) (by omega) fun _ => ?_
        have m1 := g2 _ (List.getElem_mem (show j < base[x].length by omega))
        have m2 := g4 _ (List.getElem_mem (show j < base[k].length by omega))
        have m3 : (base[x][j] * base[k][j]).natAbs ≤ 2 * 2 := by rw [Int.natAbs_mul]; exact Nat.mul_le_mul m1 m2
        exact Wi.mul (by unfold I64; omega) (Wi.add (by unfold I64; omega) (Wi.add (by unfold I64; omega) (hJ3 _ _ hjn ⟨_, rfl, rfl, by omega⟩)))
      · refine Wi.eqlC (fun _ => Wi.tru (fin 0 (by decide))) fun _ => Wi.fls (Wi.eqlC (fun _ => Wi.tru ?_) fun _ => Wi.fls ?_)
        · obtain ⟨g1, g2⟩ := hbe x hxb
          obtain ⟨g3, g4⟩ := hbe k hkb
          refine Wl.at1H rfl hB hxb fun p1 hp1 => Wl.atIntH hp1 (i := k) (by omega) fun _ => Wl.at1H rfl hB hkb fun p2 hp2 => Wl.atIntH hp2 (i := x) (by omega) fun _ => ?_
          have m1 := g2 _ (List.getElem_mem (show k < base[x].length by omega))
          have m2 := g4 _ (List.getElem_mem (show x < base[k].length by omega))
          refine Wi.add (by unfold I64; omega) ?_
          unfold f46.j2
          exact fin _ (by omega)
        · unfold f46.j2
          exact fin _ (by omega)
    · have hkn : k = n := by omega
      have h := h.asData (i := 0) rfl
      have h : Ab.Loc H0 (.data RS [w] r :: .box b10 [u1, u2, .slice none 0 0, .slice none 0 0] :: .grow RS 25 u1 D :: .grow Rd.int 2 u2 C :: .data RSS [u] base :: .box b1 nil4 :: L) H := h
      have hcu := (h.rd (cs := [w]) (r := RS)).one
      refine Wi.fieldAddr (Wl.get (b := b10) (o := 0) h rfl ?_)
      refine Wl.pushO (r := RS) (u := w) (x := r) (i := 2) (j := 0) (L2 := fun v' => .data RS [w] r :: .box b10 [u1, u2, .slice none 0 0, .slice none 0 0] :: .grow RS 25 v' (D ++ [r]) :: .grow Rd.int 2 u2 C :: .data RSS [u] base :: .box b1 nil4 :: L) (L3 := fun v' => .emp :: .box b10 [u1, u2, .slice none 0 0, .slice none 0 0] :: .grow RS 25 v' (D ++ [r]) :: .grow Rd.int 2 u2 C :: .data RSS [u] base :: .box b1 nil4 :: L) rfl h (by decide) hcu (by omega) fun H u1' h => ?_
      have h : Ab.Loc H0 (.box b10 [u1, u2, .slice none 0 0, .slice none 0 0] :: .grow RS 25 u1' (D ++ [r]) :: .grow Rd.int 2 u2 C :: .data RSS [u] base :: .box b1 nil4 :: L) H := h.tl
      have k3 := (h.rd (cs := [u1']) (r := RSS)).cell1
      refine Wi.fieldAddr (Wl.put (b := b10) (o := 0) (i := 0) h k3 (by simp) fun H h => Wi.fieldAddr (Wl.get (b := b10) (o := 1) h rfl ?_))
      have h : Ab.Loc H0 (.box b10 [u1', u2, .slice none 0 0, .slice none 0 0] :: .grow RS 25 u1' (D ++ [r]) :: .grow Rd.int 2 u2 C :: .data RSS [u] base :: .box b1 nil4 :: L) H := h
      refine Wl.litN [3, 9, 100] rfl (by decide) (by simp [I64]) rfl h fun H vl h => Wi.call (fn70 (i := i + 6) h (by simpa using hi) (fun H h => h.rd (cs := [vl])) (by decide) fun H t h ht => ?_)
      have ht : 0 ≤ t ∧ t ≤ 100 := by simp at ht; omega
      have h := h.tl
      refine Wi.chk (Wl.get (b := b10) (o := 1) h rfl ⟨rfl, rfl⟩) (Wi.call (fn84 (i := i + 5) h (by simpa using hi) ht fun H z h hz => ?_))
      refine Wi.chk (Wl.get (b := b10) (o := 1) h rfl ⟨rfl, rfl⟩) (Wl.pushP (r := Rd.int) (x := z) (i := 2) rfl rfl rfl (fun _ => ⟨rfl, rfl, by unfold I64; omega⟩) h (by omega) fun H u2' h => ?_)
      have h : Ab.Loc H0 (.box b10 [u1', u2, .slice none 0 0, .slice none 0 0] :: .grow RS 25 u1' (D ++ [r]) :: .grow Rd.int 2 u2' (C ++ [z]) :: .data RSS [u] base :: .box b1 nil4 :: L) H := h
      have k4 := (h.rd (cs := [u2']) (r := RS)).cell1
      refine Wi.fieldAddr (Wl.put (b := b10) (o := 1) (i := 0) h k4 (by simp) fun H h => Wi.add hI (hJ _ _ hxn ⟨u1', u2', D ++ [r], C ++ [z], rfl, by simp; omega, fun q hq => ?_, by simp; omega, h⟩))
      rcases List.mem_append.1 hq with hq | hq
      · exact hDr q hq
      · rw [List.mem_singleton] at hq; rw [hq]; exact ⟨by omega, hrb⟩
  · exact drawPr_end (h.cut 3) hi hn3 hm (by omega) hDr (by omega) hQ

theorem fn49 {u1 u2 u3 u4 : Value} {p : Prg} {n m : Nat} (h : Ab.Loc H0 (.data RPrg [u1, u2, u3, u4] p :: L) H) (hi : L[i]? = some (.src b vc code)) (hp : IsNM n m p) (hQ : ∀ H' u1 u2 u3 u4 p, Ab.Loc H0 (.data RPrg [u1, u2, u3, u4] p :: L) H' → SmallG p → Q (.agg #[u1, u2, u3, u4]) H') :
    Runs Tryz.prog 49 #[pt b 0, .agg #[u1, u2, u3, u4]] H Q := by
  have hsm := hp.small
  obtain ⟨n1, m1, pd, pdr, pc, pa, par, pb⟩ := hp
  refine f49.enter ?_
  unfold f49.w
  refine Wl.box (cs := [u1, u2, u3, u4]) h fun H bp h => Wl.new h fun H b2 h => Wi.call (fn47 (i := i + 3) h (by simpa using hi) fun H x h hx _ => ?_)
  have h : Ab.Loc H0 (.box b2 nil4 :: .box bp [u1, u2, u3, u4] :: .data RPrg [u1, u2, u3, u4] p :: L) H := h
  refine Wi.eqlC (fun _ => Wi.tru ?_) fun _ => Wi.fls ?_
  · refine Wi.build (cells := nil4) rfl (Wl.putA (b := b2) (i := 0) h rfl rfl rfl fun H h => Wl.getA (b := b2) h rfl ?_)
    have h : Ab.Loc H0 (.box b2 nil4 :: .box bp [u1, u2, u3, u4] :: .data RPrg [u1, u2, u3, u4] p :: L) H := h
    exact hQ _ _ _ _ _ noPrg (nilPr (((h.cut 0).cut 0).cut 0)) ⟨by simp, by simp, by simp, by simp, by simp, by simp⟩
  have h : Ab.Loc H0 (.data RPrg [u1, u2, u3, u4] p :: .box b2 nil4 :: .box bp [u1, u2, u3, u4] :: L) H := h.front 2 rfl
  have h := split4 h
  have fin : ∀ H w1 w2 w3 w4 (p : Prg), SmallG p → Ab.Loc H0 (.data RSS [w1] p.1 :: .data RS [w2] p.2.1 :: .data RSS [w3] p.2.2.1 :: .data RS [w4] p.2.2.2 :: .box b2 nil4 :: .box bp [w1, w2, w3, w4] :: L) H → f49.j1 Q (pt bp 0) (pt b2 0) H := fun H w1 w2 w3 w4 p hp h => by
    unfold f49.j1
    have kc := cells4 h
    refine Wl.getA (b := bp) h rfl (Wl.putA (b := b2) (i := 4) h rfl rfl kc fun H h => Wl.getA (b := b2) h rfl ?_)
    have h : Ab.Loc H0 (.data RSS [w1] p.1 :: .data RS [w2] p.2.1 :: .data RSS [w3] p.2.2.1 :: .data RS [w4] p.2.2.2 :: .box b2 [w1, w2, w3, w4] :: .box bp [w1, w2, w3, w4] :: L) H := h
    have h := join4 h
    exact hQ _ _ _ _ _ _ ((h.cut 1).cut 1) hp
  obtain ⟨s1, s2, s3, s4, s5, s6⟩ := hsm
  refine Wi.eqlC (fun _ => Wi.tru ?_) fun _ => Wi.fls ?_
  · refine Wi.fieldAddr (Wl.get (b := bp) (o := 1) h rfl (Wi.call (fn79 (h.rd (cs := [u2]) (r := RS)) (by omega) fun H w f => ?_)))
    have h := h.addG f
    refine Wl.pushP (r := Rd.int) (x := (0 : Int)) (i := 0) rfl rfl rfl (fun _ => ⟨rfl, rfl, by unfold I64; omega⟩) h (by omega) fun H w' h => ?_
    have h : Ab.Loc H0 (.grow Rd.int 2 w' (p.2.1 ++ [0]) :: .data RSS [u1] p.1 :: .data RS [u2] p.2.1 :: .data RSS [u3] p.2.2.1 :: .data RS [u4] p.2.2.2 :: .box b2 nil4 :: .box bp [u1, u2, u3, u4] :: L) H := h
    have k := (h.rd (cs := [w']) (r := RS)).cell1
    refine Wi.fieldAddr (Wl.put (b := bp) (o := 1) (i := 6) h k (by simp) fun H h => ?_)
    have h := h.asData (i := 0) rfl
    have h : Ab.Loc H0 (.data RS [w'] (p.2.1 ++ [0]) :: .data RSS [u1] p.1 :: .data RS [u2] p.2.1 :: .data RSS [u3] p.2.2.1 :: .data RS [u4] p.2.2.2 :: .box b2 nil4 :: .box bp [u1, w', u3, u4] :: L) H := h
    exact fin _ _ _ _ _ (p.1, p.2.1 ++ [0], p.2.2) ⟨s1, s2, by show (p.2.1 ++ [0]).length ≤ 6; rw [List.length_append]; simp; omega, s4, s5, s6⟩ ((h.cut 2).front 1 rfl)
  refine Wi.eqlC (fun _ => Wi.tru ?_) fun _ => Wi.fls ?_
  · refine Wi.fieldAddr (Wl.get (b := bp) (o := 0) h rfl (Wi.call (fn78 (h.rd (cs := [u1]) (r := RSS) (x := p.1)) ⟨by omega, fun r hr => by have := s2 r hr; omega⟩ fun H w f => ?_)))
    have h := (h.addG f).asData (i := 0) rfl
    have h : Ab.Loc H0 (.data RSS [w] p.1 :: .data RSS [u1] p.1 :: .data RS [u2] p.2.1 :: .data RSS [u3] p.2.2.1 :: .data RS [u4] p.2.2.2 :: .box b2 nil4 :: .box bp [u1, u2, u3, u4] :: L) H := h
    have h := h.cut 1
    have h : Ab.Loc H0 (.data RSS [w] p.1 :: .data RS [u2] p.2.1 :: .data RSS [u3] p.2.2.1 :: .data RS [u4] p.2.2.2 :: .box b2 nil4 :: .box bp [u1, u2, u3, u4] :: L) H := h
    have k := (h.rd (cs := [w]) (r := RSS)).cell1
    refine Wi.fieldAddr (Wl.put (b := bp) (o := 0) (i := 5) h k (by simp) fun H h => ?_)
    have h : Ab.Loc H0 (.data RSS [w] p.1 :: .data RS [u2] p.2.1 :: .data RSS [u3] p.2.2.1 :: .data RS [u4] p.2.2.2 :: .box b2 nil4 :: .box bp [w, u2, u3, u4] :: L) H := h
    refine Wi.fieldAddr (Wl.get (b := bp) (o := 0) h rfl (Wi.fieldAddr (Wl.get (b := bp) (o := 0) h rfl (Wl.len (v := w) (xs := p.1) h (Wi.sub (by unfold I64; omega) ?_)))))
    obtain ⟨k0, hk0⟩ : ∃ k : Nat, p.1.length = k + 1 := ⟨p.1.length - 1, by omega⟩
    have hk1 : k0 < p.1.length := by omega
    rw [show ((p.1.length : Nat) : Int) - 1 = (k0 : Nat) by omega]
    obtain ⟨us, hus, h⟩ := h.heads (i := 0) rfl rfl
    have h : Ab.Loc H0 (.rows RS w us p.1 :: .data RS [u2] p.2.1 :: .data RSS [u3] p.2.2.1 :: .data RS [u4] p.2.2.2 :: .box b2 nil4 :: .box bp [w, u2, u3, u4] :: L) H := h
    refine Wl.atRow (j := 0) rfl h (a := k0) hk1 fun wr hw hrow => ?_
    obtain ⟨q1, q2⟩ := pdr _ (List.getElem_mem hk1)
    have h0 : 0 < p.1[k0].length := by omega
    have hx0 := q2 _ (List.getElem_mem h0)
    refine Wl.adrH hrow h0 (Wl.ldIntH hrow h0 fun _ => ?_)
    refine Wl.litN [1, 30] rfl (by decide) (by simp [I64]) rfl h fun H vl h => Wi.call (fn70 (i := i + 7) h (by simpa using hi) (fun H h => h.rd (cs := [vl])) (by decide) fun H t h ht => ?_)
    have ht : 1 ≤ t ∧ t ≤ 30 := by simp at ht; omega
    have h := h.tl
    have h : Ab.Loc H0 (.rows RS w us p.1 :: .data RS [u2] p.2.1 :: .data RSS [u3] p.2.2.1 :: .data RS [u4] p.2.2.2 :: .box b2 nil4 :: .box bp [w, u2, u3, u4] :: L) H := h
    have hrow2 := h.row (j := 0) rfl rfl hw hk1
    have hI : ∀ x : Int, x.natAbs ≤ 100 → I64 (x + t) := fun x hx => by unfold I64; omega
    refine Wi.chk (Wl.ldIntH hrow2 h0 fun _ => ⟨rfl, rfl⟩) (Wi.add (hI _ hx0) (Wl.rowSet h (j := 0) rfl hw hk1 (i := 0) h0 (hI _ hx0) fun H h => ?_))
    have h := h.unrows (i := 0) rfl
    unfold f49.j2
    exact fin _ w u2 u3 u4 (p.1.set k0 (p.1[k0].set 0 (p.1[k0][0] + t)), p.2) ⟨by simpa using s1, fun r hr => by
      rcases List.mem_or_eq_of_mem_set hr with g | g
      · exact s2 r g
      · rw [g, List.length_set]; omega, s3, s4, s5, s6⟩ h
  refine Wi.eqlC (fun _ => Wi.tru ?_) fun _ => Wi.fls ?_
  · refine Wi.fieldAddr (Wl.get (b := bp) (o := 3) h rfl (Wi.call (fn79 (h.rd (cs := [u4]) (r := RS) (x := p.2.2.2)) (by omega) fun H w f => ?_)))
    have h := h.addG f
    refine Wl.pushP (r := Rd.int) (x := (0 : Int)) (i := 0) rfl rfl rfl (fun _ => ⟨rfl, rfl, by unfold I64; omega⟩) h (by omega) fun H w' h => ?_
    have h : Ab.Loc H0 (.grow Rd.int 2 w' (p.2.2.2 ++ [0]) :: .data RSS [u1] p.1 :: .data RS [u2] p.2.1 :: .data RSS [u3] p.2.2.1 :: .data RS [u4] p.2.2.2 :: .box b2 nil4 :: .box bp [u1, u2, u3, u4] :: L) H := h
    have k := (h.rd (cs := [w']) (r := RS)).cell1
    refine Wi.fieldAddr (Wl.put (b := bp) (o := 3) (i := 6) h k (by simp) fun H h => ?_)
    have h := h.asData (i := 0) rfl
    have h : Ab.Loc H0 (.data RS [w'] (p.2.2.2 ++ [0]) :: .data RSS [u1] p.1 :: .data RS [u2] p.2.1 :: .data RSS [u3] p.2.2.1 :: .data RS [u4] p.2.2.2 :: .box b2 nil4 :: .box bp [u1, u2, u3, w'] :: L) H := h
    unfold f49.j3 f49.j2
    have h : Ab.Loc H0 (.data RSS [u1] p.1 :: .data RS [u2] p.2.1 :: .data RSS [u3] p.2.2.1 :: .data RS [w'] (p.2.2.2 ++ [0]) :: .box b2 nil4 :: .box bp [u1, u2, u3, w'] :: L) H := (((h.cut 4).front 3 rfl).front 3 rfl).front 3 rfl
    exact fin _ _ _ _ _ (p.1, p.2.1, p.2.2.1, p.2.2.2 ++ [0]) ⟨s1, s2, s3, s4, s5, by show (p.2.2.2 ++ [0]).length ≤ 6; rw [List.length_append]; simp; omega⟩ h
  · unfold f49.j3 f49.j2
    exact fin _ _ _ _ _ p ⟨s1, s2, s3, s4, s5, s6⟩ h

theorem fn69 (h : Ab.Loc H0 L H) (hi : L[i]? = some (.src b vc code)) (hQ : ∀ H' u1 u2 u3 u4 p, Ab.Loc H0 (.data RPrg [u1, u2, u3, u4] p :: L) H' → SmallG p → Q (.agg #[u1, u2, u3, u4]) H') :
    Runs Tryz.prog 69 #[pt b 0] H Q := by
  refine f69.enter ?_
  unfold f69.w
  refine Wl.new h fun H b1 h => Wi.call (fn46 (i := i + 1) h (by simpa using hi) fun H u1 u2 u3 u4 p n m h hp => Wi.call (fn49 (i := i + 1) h (by simpa using hi) hp fun H w1 w2 w3 w4 p h hp => ?_))
  have kc := (h.rd (cs := [w1, w2, w3, w4]) (r := RPrg)).cell
  refine Wl.putA (b := b1) (i := 1) h rfl rfl kc fun H h => Wl.getA (b := b1) h rfl ?_
  exact hQ _ w1 w2 w3 w4 p (h.cut 1) hp

end

section
variable {H0 : Heap} {Q : Post} {vc : Value} {code : List Int}

theorem fn23 (hc : Has RBytes H0 [vc] code) (hQ : ∀ H' u1 u2 u3 u4 p, Fresh RPrg H0 [u1, u2, u3, u4] p H' → SmallG p → Q (.agg #[u1, u2, u3, u4]) H') : Runs Tryz.prog 23 #[vc] H0 Q := by
  refine f23.enter ?_
  unfold f23.w
  refine Wl.new (Loc.start H0) fun H b1 h => Wi.call (fn45 hc h fun H b h => Wi.call (fn69 (i := 0) h rfl fun H u1 u2 u3 u4 p h hp => ?_))
  have kc := (h.rd (cs := [u1, u2, u3, u4]) (r := RPrg)).cell
  refine Wl.putA (b := b1) (i := 2) h rfl rfl kc fun H h => Wl.getA (b := b1) h rfl ?_
  exact hQ _ u1 u2 u3 u4 p (h.ret (i := 0) rfl) hp

theorem fn34 (hc : Has RBytes H0 [vc] code) (hQ : ∀ H' u1 u2 u3 u4 p, Fresh RPrg H0 [u1, u2, u3, u4] p H' → SmallG p → Q (.agg #[u1, u2, u3, u4]) H') : Runs Tryz.prog 34 #[vc] H0 Q := by
  refine f34.enter ?_
  unfold f34.w
  refine Wl.new (Loc.start H0) fun H b1 h => Wi.call (fn45 hc h fun H b h => Wi.call (fn69 (i := 0) h rfl fun H u1 u2 u3 u4 p h hp => ?_))
  have kc := (h.rd (cs := [u1, u2, u3, u4]) (r := RPrg)).cell
  refine Wl.putA (b := b1) (i := 2) h rfl rfl kc fun H h => Wl.getA (b := b1) h rfl ?_
  exact hQ _ u1 u2 u3 u4 p (h.ret (i := 0) rfl) hp

end
end Go.Proofs.YtdchibdcfdbcpaaGreat
