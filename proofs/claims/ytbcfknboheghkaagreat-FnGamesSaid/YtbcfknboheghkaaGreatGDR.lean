/- Draws: sources, numbers, matrices. No condition. -/
import Derived.Test.YtbcfknboheghkaaGreatGAA
import Derived.Test.YtbcfknboheghkaaGreatGLL
import Derived.Test.YtbcfknboheghkaaGreatZabG8
import Derived.Test.YtbcfknboheghkaaGreatZabG9
import Derived.Test.YtbcfknboheghkaaGreatGBB
namespace Go.Proofs.YtbcfknboheghkaaGreat
open Go.Ab

/- loop.example/g01343/spec.l01From -/
def f44.l1 (Q : Post) (code_0 : Value) (v5 : Value) (I1 : St [4] → Heap → Prop) (i_4 : Value) (H : Heap) : Prop :=
  W.len code_0 H fun v6 H =>
  W.bin .lss i_4 v6 H fun v7 H =>
  W.guarded v7 true (fun H k => k i_4 H) H fun v8 H =>
  W.guarded v7 true (fun H k => W.bin .lss v8 (.int .i64 4096) H k) H fun v9 H =>
  W.pick v7 v9 (.bool false) H fun v10 H =>
  W.cond v10 H
  (fun H => W.nilCheck v5 H fun v11 H =>
   W.fieldAddr 2 v11 H fun v12 H =>
   W.get v12 H fun v13 H =>
   W.bin .mul v13 (.int .u64 1099511628211) H fun v14 H =>
   W.indexAddr 1 code_0 i_4 H fun v15 H =>
   W.get v15 H fun v16 H =>
   W.conv .u64 v16 H fun v17 H =>
   W.bin .add v14 v17 H fun v18 H =>
   W.bin .add v18 (.int .u64 167) H fun v19 H =>
   W.nilCheck v5 H fun v20 H =>
   W.fieldAddr 2 v20 H fun v21 H =>
   W.put v21 v19 H fun _ H =>
   W.bin .add i_4 (.int .i64 1) H fun v22 H =>
   I1 (v22, ()) H)
  (fun H => Q v5 H)
def f44.w (Q : Post) (code_0 : Value) (H : Heap) : Prop :=
  W.len code_0 H fun v1 H =>
  W.conv .u64 v1 H fun v2 H =>
  W.bin .add (.int .u64 13431) v2 H fun v3 H =>
  W.build [(.slice none 0 0), (.int .i64 0), (.int .u64 0)] [(0, 1, code_0), (2, 1, v3)] H fun v4 H =>
  W.box v4 129 H fun v5 H =>
  W.loop (S := St [4]) (fun I1 s H => f44.l1 Q code_0 v5 I1 s.1 H) ((.int .i64 0), ()) H
theorem f44.enter {Q : Post} {code_0 : Value} {H : Heap} (h : f44.w Q code_0 H) : Runs Tryz.prog 44 #[code_0] H Q :=
  fn_enter (ann := [(3, [4])]) (by kernel_rfl) Tryz.func44 rfl (by kernel_rfl) h (by kernel_rfl)

/- loop.example/g01343/spec.l01Next -/
def f103.j1 (Q : Post) (n_1 : Value) (x_5 : Value) (H : Heap) : Prop :=
  W.bin .rem x_5 n_1 H fun v39 H =>
  Q v39 H
def f103.w (Q : Post) (s_0 : Value) (n_1 : Value) (H : Heap) : Prop :=
  W.bin .lss n_1 (.int .i64 1) H fun v1 H =>
  W.cond v1 H
  (fun H => Q (.int .i64 0) H)
  (fun H => W.nilCheck s_0 H fun v2 H =>
   W.fieldAddr 2 v2 H fun v3 H =>
   W.get v3 H fun v4 H =>
   W.bin .mul v4 (.int .u64 6364136223846793005) H fun v5 H =>
   W.bin .add v5 (.int .u64 1442695040888963407) H fun v6 H =>
   W.nilCheck s_0 H fun v7 H =>
   W.fieldAddr 2 v7 H fun v8 H =>
   W.put v8 v6 H fun _ H =>
   W.nilCheck s_0 H fun v9 H =>
   W.fieldAddr 2 v9 H fun v10 H =>
   W.get v10 H fun v11 H =>
   W.bin .shr v11 (.int .u64 31) H fun v12 H =>
   W.bin .and v12 (.int .u64 1073741823) H fun v13 H =>
   W.conv .i64 v13 H fun v14 H =>
   W.nilCheck s_0 H fun v15 H =>
   W.fieldAddr 1 v15 H fun v16 H =>
   W.get v16 H fun v17 H =>
   W.nilCheck s_0 H fun v18 H =>
   W.fieldAddr 0 v18 H fun v19 H =>
   W.get v19 H fun v20 H =>
   W.len v20 H fun v21 H =>
   W.bin .lss v17 v21 H fun v22 H =>
   W.cond v22 H
   (fun H => W.nilCheck s_0 H fun v23 H =>
    W.fieldAddr 0 v23 H fun v24 H =>
    W.get v24 H fun v25 H =>
    W.nilCheck s_0 H fun v26 H =>
    W.fieldAddr 1 v26 H fun v27 H =>
    W.get v27 H fun v28 H =>
    W.indexAddr 1 v25 v28 H fun v29 H =>
    W.get v29 H fun v30 H =>
    W.conv .i64 v30 H fun v31 H =>
    W.bin .add v14 v31 H fun v32 H =>
    W.nilCheck s_0 H fun v33 H =>
    W.fieldAddr 1 v33 H fun v34 H =>
    W.get v34 H fun v35 H =>
    W.bin .add v35 (.int .i64 1) H fun v36 H =>
    W.nilCheck s_0 H fun v37 H =>
    W.fieldAddr 1 v37 H fun v38 H =>
    W.put v38 v36 H fun _ H =>
    f103.j1 Q n_1 v32 H)
   (fun H => f103.j1 Q n_1 v14 H))
theorem f103.enter {Q : Post} {s_0 : Value} {n_1 : Value} {H : Heap} (h : f103.w Q s_0 n_1 H) : Runs Tryz.prog 103 #[s_0, n_1] H Q :=
  fn_enter (ann := []) (by kernel_rfl) Tryz.func103 rfl (by kernel_rfl) h (by kernel_rfl)

/- loop.example/g01343/spec.l01Pick -/
def f105.w (Q : Post) (s_0 : Value) (list_1 : Value) (H : Heap) : Prop :=
  W.len list_1 H fun v1 H =>
  W.call Tryz.prog (.func (.func 103) #[] #[]) #[s_0, v1] H fun v2 H =>
  W.indexAddr 1 list_1 v2 H fun v3 H =>
  W.get v3 H fun v4 H =>
  Q v4 H
theorem f105.enter {Q : Post} {s_0 : Value} {list_1 : Value} {H : Heap} (h : f105.w Q s_0 list_1 H) : Runs Tryz.prog 105 #[s_0, list_1] H Q :=
  fn_enter (ann := []) (by kernel_rfl) Tryz.func105 rfl (by kernel_rfl) h (by kernel_rfl)

/- loop.example/g01343/spec.l01DrawPart -/
def f154.w (Q : Post) (s_0 : Value) (most_1 : Value) (H : Heap) : Prop :=
  W.bin .mul (.int .i64 2) most_1 H fun v1 H =>
  W.bin .add v1 (.int .i64 1) H fun v2 H =>
  W.call Tryz.prog (.func (.func 103) #[] #[]) #[s_0, v2] H fun v3 H =>
  W.bin .sub v3 most_1 H fun v4 H =>
  Q v4 H
theorem f154.enter {Q : Post} {s_0 : Value} {most_1 : Value} {H : Heap} (h : f154.w Q s_0 most_1 H) : Runs Tryz.prog 154 #[s_0, most_1] H Q :=
  fn_enter (ann := []) (by kernel_rfl) Tryz.func154 rfl (by kernel_rfl) h (by kernel_rfl)


abbrev RBytes : Rd (List Int) := Rd.slice Rd.u8

section
variable {H0 H : Heap} {L : List (Atom H0.next)} {Q : Post} {b i : Nat} {vc : Value} {code : List Int}

theorem fn103 {n : Int} (h : Ab.Loc H0 L H) (hi : L[i]? = some (.src b vc code)) (hQ : ∀ H' (x : Int), Ab.Loc H0 L H' → 0 ≤ x ∧ x < 1073742080 → (1 ≤ n → x < n) → Q (.int .i64 x) H') : Runs Tryz.prog 103 #[pt b 0, .int .i64 n] H Q := by
  refine f103.enter ?_
  unfold f103.w
  refine Wi.lssC (fun h1 => Wi.tru (hQ _ 0 h ⟨by decide, by decide⟩ fun g => by omega)) fun h1 => Wi.fls ?_
  obtain ⟨a, hh, ty, e, hk, ha, hc, hb0, up⟩ := h.src hi
  refine Wi.nilP (Wi.fieldAddr (Wi.get hk rfl (Wi.mulU fun c1 => Wi.addU fun c2 => Wi.nilP (Wi.fieldAddr (Wi.put hk rfl rfl (by simp) fun H1 w1 => ?_)))))
  have k1 : H1.blk b = some ⟨[vc, .int .i64 (a : Int), .int .u64 c2], ty, e, false⟩ := w1.here
  refine Wi.nilP (Wi.fieldAddr (Wi.get k1 rfl (Wi.shrU (by decide) fun c3 => Wi.andU (m := 1073741823) (by decide) fun m hm => Wi.convI (by unfold I64; omega) ?_)))
  refine Wi.nilP (Wi.fieldAddr (Wi.get k1 rfl (Wi.nilP (Wi.fieldAddr (Wi.get k1 rfl ?_)))))
  have h1' : Ab.Loc H0 L H1 := up H1 (by rw [w1.next]; exact Nat.le_refl _) (fun c _ hcb => w1.off c hcb) ⟨a, c2, ty, e, k1, ha⟩
  have hc1 : Has RBytes H1 [vc] code := (h1'.src hi).elim fun _ g => g.elim fun _ g => g.elim fun _ g => g.elim fun _ g => g.2.2.1
  have hsm := hc1.small
  have fin : ∀ H2 (x : Int), Ab.Loc H0 L H2 → 0 ≤ x → x < 1073742080 → f103.j1 Q (.int .i64 n) (.int .i64 x) H2 := fun H2 x h2 g1 g2 => by
    unfold f103.j1
    have e1 := Int.tmod_nonneg n g1
    have e2 : x.tmod n ≤ x := by
      have e : x.tmod n = ((x.toNat % n.toNat : Nat) : Int) := by
        rw [Int.ofNat_tmod, show ((x.toNat : Nat) : Int) = x by omega, show ((n.toNat : Nat) : Int) = n by omega]
      have := Nat.mod_le x.toNat n.toNat
      omega
    have e3 : x.tmod n < n := Int.tmod_lt_of_pos x (by omega)
    exact Wi.remI (by omega) (hQ _ _ h2 ⟨e1, by omega⟩ fun _ => e3)
  refine Wl.lenH hc1 (Wi.lssC (fun hlt => Wi.tru ?_) fun hge => Wi.fls (fin _ _ h1' (by omega) (by omega)))
  have hac : a < code.length := by omega
  refine Wi.nilP (Wi.fieldAddr (Wi.get k1 rfl (Wi.nilP (Wi.fieldAddr (Wi.get k1 rfl ?_)))))
  refine Wl.at1H (r := Rd.u8) rfl hc1 hac fun u hu => ?_
  obtain ⟨_, hu⟩ := hu
  obtain ⟨_, hu, hx1, hx2⟩ := hu
  simp only [List.cons.injEq, and_true] at hu
  subst hu
  refine Wi.convI (by unfold I64; omega) (Wi.add (by unfold I64; omega) (Wi.nilP (Wi.fieldAddr (Wi.get k1 rfl (Wi.add (by unfold I64; omega) (Wi.nilP (Wi.fieldAddr (Wi.put k1 rfl rfl (by simp) fun H2 w2 => ?_))))))))
  have k2 : H2.blk b = some ⟨[vc, .int .i64 ((a : Int) + 1), .int .u64 c2], ty, e, false⟩ := w2.here
  refine fin _ _ (up H2 (by rw [w2.next, w1.next]; exact Nat.le_refl _) (fun c _ hcb => (w2.off c hcb).trans (w1.off c hcb)) ⟨a + 1, c2, ty, e, by rw [k2]; rfl, hac⟩) (by omega) (by omega)

theorem fn105 {vl : Value} {l : List Int} (h : Ab.Loc H0 L H) (hi : L[i]? = some (.src b vc code)) (hl : ∀ H, Ab.Loc H0 L H → Has RS H [vl] l) (h0 : 0 < l.length) (hQ : ∀ H' (x : Int), Ab.Loc H0 L H' → x ∈ l → Q (.int .i64 x) H') : Runs Tryz.prog 105 #[pt b 0, vl] H Q := by
  refine f105.enter (Wl.lenH (hl H h) (Wi.call (fn103 h hi fun H x h hx hn => ?_)))
  have hlt := hn (by omega)
  obtain ⟨j, rfl⟩ : ∃ j : Nat, x = (j : Int) := ⟨x.toNat, by omega⟩
  exact Wl.atIntH (hl H h) (i := j) (by omega) fun _ => hQ _ _ h (List.getElem_mem _)

/-- Rows of so many numbers, bounded. -/
def Small (n m : Nat) (xs : List (List Int)) : Prop := ∀ r ∈ xs, r.length = n ∧ ∀ x ∈ r, x.natAbs ≤ m



end

theorem fn44 {H0 H : Heap} {L : List (Atom H0.next)} {Q : Post} {vc : Value} {code : List Int} (hc0 : Has RBytes H0 [vc] code) (h : Ab.Loc H0 L H) (hQ : ∀ H' b, Ab.Loc H0 (.src b vc code :: L) H' → Q (pt b 0) H') : Runs Tryz.prog 44 #[vc] H Q := by
  have hc := hc0.le h.le
  have hsm := hc.small
  refine f44.enter ?_
  unfold f44.w
  refine Wl.lenH hc (Wi.convU fun c1 => Wi.addU fun c2 => Wi.build (cells := [vc, .int .i64 0, .int .u64 c2]) (by have e : cellsA (.int .u64 c2) = some [.int .u64 c2] := rfl; simp [fillA, hc.one, e]) ?_)
  refine Wl.box h fun H b h => ?_
  have h : Ab.Loc H0 (.src b vc code :: L) H := h.as (i := 0) rfl fun bs hb => by
    obtain ⟨h1, h2, ty, e, h3⟩ := hb
    obtain ⟨bs2, hr2⟩ := hc0
    exact ⟨bs, ⟨h1, h2, ⟨0, c2, ty, e, h3, Nat.zero_le _⟩, bs2, Rd.le _ hr2 h.le, fun c hc => Rd.low _ hr2 c hc⟩, fun c hc => hc⟩
  refine W.for_rule code.length (fun x st H => st = (.int .i64 (x : Nat), ()) ∧ Ab.Loc H0 (.src b vc code :: L) H) ⟨rfl, h⟩ ?_
  rintro x st H J hx ⟨rfl, h⟩ hJ
  obtain ⟨a, hh, ty, e, hk, ha, hcH, hb0, up⟩ := h.src (i := 0) rfl
  refine Wl.lenH hcH (Wi.lssC (fun hlt => ?_) fun hge => ?_)
  · simp only [gw]
    generalize (4096 : Int) = top
    refine Wi.lssC (fun h4 => ?_) fun h4 => ?_
    · simp only [gw]
      have hxc : x < code.length := by omega
      refine Wi.nilP (Wi.fieldAddr (Wi.get hk rfl (Wi.mulU fun c3 => Wl.at1H (r := Rd.u8) rfl hcH hxc fun u hu => ?_)))
      obtain ⟨_, hu⟩ := hu
      obtain ⟨_, hu, _, _⟩ := hu
      simp only [List.cons.injEq, and_true] at hu
      subst hu
      refine Wi.convU fun c4 => Wi.addU fun c5 => Wi.addU fun c6 => Wi.nilP (Wi.fieldAddr (Wi.put hk rfl rfl (by simp) fun H1 w1 => Wi.add (by unfold I64; omega) (hJ _ _ hxc ⟨rfl, ?_⟩)))
      exact up H1 (by rw [w1.next]; exact Nat.le_refl _) (fun c _ hcb => w1.off c hcb) ⟨a, c6, ty, e, w1.here, ha⟩
    · simp only [gw]
      exact hQ _ _ h
  · simp only [gw]
    exact hQ _ _ h

end Go.Proofs.YtbcfknboheghkaaGreat
/-! Draws: games. No condition. -/
namespace Go.Proofs.YtbcfknboheghkaaGreat
open Go.Ab

/- loop.example/g01343/spec.l07DrawOf -/
def f45.j3 (Q : Post) (v21 : Value) (a_9 : Value) (b_10 : Value) (j_11 : Value) (I2 : St [9, 10, 11] → Heap → Prop) (y_13' : Value) (H : Heap) : Prop :=
  W.lit 1 [(.int .i64 0)] 2 [(0, 1, v21)] H fun v28 H =>
  W.append 1 2 a_9 v28 H fun v29 H =>
  W.lit 1 [(.int .i64 0)] 2 [(0, 1, y_13')] H fun v30 H =>
  W.append 1 2 b_10 v30 H fun v31 H =>
  W.bin .add j_11 (.int .i64 1) H fun v32 H =>
  I2 (v29, v31, v32, ()) H
def f45.j2 (Q : Post) (v14 : Value) (v21 : Value) (a_9 : Value) (b_10 : Value) (j_11 : Value) (I2 : St [9, 10, 11] → Heap → Prop) (y_13 : Value) (H : Heap) : Prop :=
  W.bin .eql v14 (.int .i64 1) H fun v27 H =>
  W.cond v27 H
  (fun H => f45.j3 Q v21 a_9 b_10 j_11 I2 v21 H)
  (fun H => f45.j3 Q v21 a_9 b_10 j_11 I2 y_13 H)
def f45.l2 (Q : Post) (l_4 : Value) (s_0 : Value) (v13 : Value) (v14 : Value) (v15 : Value) (i_8 : Value) (I1 : St [8] → Heap → Prop) (I2 : St [9, 10, 11] → Heap → Prop) (a_9 : Value) (b_10 : Value) (j_11 : Value) (H : Heap) : Prop :=
  W.bin .lss j_11 l_4 H fun v19 H =>
  W.cond v19 H
  (fun H => W.call Tryz.prog (.func (.func 103) #[] #[]) #[s_0, v13] H fun v20 H =>
   W.bin .add (.int .i64 1) v20 H fun v21 H =>
   W.call Tryz.prog (.func (.func 103) #[] #[]) #[s_0, v13] H fun v22 H =>
   W.bin .add (.int .i64 1) v22 H fun v23 H =>
   W.bin .eql v14 (.int .i64 0) H fun v24 H =>
   W.cond v24 H
   (fun H => W.bin .add v13 (.int .i64 1) H fun v25 H =>
    W.bin .sub v25 v21 H fun v26 H =>
    f45.j2 Q v14 v21 a_9 b_10 j_11 I2 v26 H)
   (fun H => f45.j2 Q v14 v21 a_9 b_10 j_11 I2 v23 H))
  (fun H => W.fieldAddr 0 v15 H fun v33 H =>
   W.get v33 H fun v34 H =>
   W.lit 1 [(.slice none 0 0)] 35 [(0, 1, a_9)] H fun v35 H =>
   W.append 1 35 v34 v35 H fun v36 H =>
   W.fieldAddr 0 v15 H fun v37 H =>
   W.put v37 v36 H fun _ H =>
   W.fieldAddr 1 v15 H fun v38 H =>
   W.get v38 H fun v39 H =>
   W.lit 1 [(.slice none 0 0)] 35 [(0, 1, b_10)] H fun v40 H =>
   W.append 1 35 v39 v40 H fun v41 H =>
   W.fieldAddr 1 v15 H fun v42 H =>
   W.put v42 v41 H fun _ H =>
   W.bin .add i_8 (.int .i64 1) H fun v43 H =>
   I1 (v43, ()) H)
def f45.l1 (Q : Post) (k_3 : Value) (l_4 : Value) (s_0 : Value) (v13 : Value) (v14 : Value) (v15 : Value) (v1 : Value) (I1 : St [8] → Heap → Prop) (i_8 : Value) (H : Heap) : Prop :=
  W.bin .lss i_8 k_3 H fun v16 H =>
  W.cond v16 H
  (fun H => W.lit 0 [(.int .i64 0)] 2 [] H fun v17 H =>
   W.lit 0 [(.int .i64 0)] 2 [] H fun v18 H =>
   W.loop (S := St [9, 10, 11]) (fun I2 s H => f45.l2 Q l_4 s_0 v13 v14 v15 i_8 I1 I2 s.1 s.2.1 s.2.2.1 H) (v17, v18, (.int .i64 0), ()) H)
  (fun H => W.getN 2 v15 H fun v44 H =>
   W.putN 2 v1 v44 H fun _ H =>
   W.getN 2 v1 H fun v45 H => Q v45 H)
def f45.j1 (Q : Post) (s_0 : Value) (v1 : Value) (k_3 : Value) (l_4 : Value) (H : Heap) : Prop :=
  W.build [(.slice none 0 0), (.slice none 0 0)] [] H fun v11 H =>
  W.lit 4 [(.int .i64 0)] 2 [(0, 1, (.int .i64 2)), (1, 1, (.int .i64 4)), (2, 1, (.int .i64 9)), (3, 1, (.int .i64 20))] H fun v12 H =>
  W.call Tryz.prog (.func (.func 105) #[] #[]) #[s_0, v12] H fun v13 H =>
  W.call Tryz.prog (.func (.func 103) #[] #[]) #[s_0, (.int .i64 5)] H fun v14 H =>
  W.new [(.slice none 0 0), (.slice none 0 0)] 26 H fun v15 H =>
  W.putN 2 v15 v11 H fun _ H =>
  W.loop (S := St [8]) (fun I1 s H => f45.l1 Q k_3 l_4 s_0 v13 v14 v15 v1 I1 s.1 H) ((.int .i64 0), ()) H
def f45.w (Q : Post) (s_0 : Value) (H : Heap) : Prop :=
  W.new [(.slice none 0 0), (.slice none 0 0)] 26 H fun v1 H =>
  W.call Tryz.prog (.func (.func 103) #[] #[]) #[s_0, (.int .i64 4)] H fun v2 H =>
  W.bin .add (.int .i64 1) v2 H fun v3 H =>
  W.bin .sub (.int .i64 5) v3 H fun v4 H =>
  W.call Tryz.prog (.func (.func 103) #[] #[]) #[s_0, v4] H fun v5 H =>
  W.bin .add (.int .i64 1) v5 H fun v6 H =>
  W.call Tryz.prog (.func (.func 103) #[] #[]) #[s_0, (.int .i64 2)] H fun v7 H =>
  W.bin .eql v7 (.int .i64 0) H fun v8 H =>
  W.cond v8 H
  (fun H => W.lit 2 [(.int .i64 0)] 2 [(0, 1, (.int .i64 2)), (1, 1, (.int .i64 3))] H fun v9 H =>
   W.call Tryz.prog (.func (.func 105) #[] #[]) #[s_0, v9] H fun v10 H =>
   f45.j1 Q s_0 v1 (.int .i64 2) v10 H)
  (fun H => f45.j1 Q s_0 v1 v3 v6 H)
theorem f45.enter {Q : Post} {s_0 : Value} {H : Heap} (h : f45.w Q s_0 H) : Runs Tryz.prog 45 #[s_0] H Q :=
  fn_enter (ann := [(8, [8]), (12, [9, 10, 11])]) (by kernel_rfl) Tryz.func45 rfl (by kernel_rfl) h (by kernel_rfl)

/- loop.example/g01343/spec.l07Bad -/
def f47.j1 (Q : Post) (v1 : Value) (v2 : Value) (H : Heap) : Prop :=
  W.getN 2 v1 H fun v19 H =>
  W.putN 2 v2 v19 H fun _ H =>
  W.getN 2 v2 H fun v20 H => Q v20 H
def f47.j2 (Q : Post) (v1 : Value) (v2 : Value) (H : Heap) : Prop :=
  f47.j1 Q v1 v2 H
def f47.w (Q : Post) (s_0 : Value) (g_1 : Value) (H : Heap) : Prop :=
  W.box g_1 26 H fun v1 H =>
  W.new [(.slice none 0 0), (.slice none 0 0)] 26 H fun v2 H =>
  W.call Tryz.prog (.func (.func 103) #[] #[]) #[s_0, (.int .i64 50)] H fun v3 H =>
  W.bin .eql v3 (.int .i64 0) H fun v4 H =>
  W.cond v4 H
  (fun H => W.build [(.slice none 0 0), (.slice none 0 0)] [] H fun v5 H =>
   W.putN 2 v2 v5 H fun _ H =>
   W.getN 2 v2 H fun v6 H => Q v6 H)
  (fun H => W.bin .eql v3 (.int .i64 1) H fun v7 H =>
   W.cond v7 H
   (fun H => (fun HB => W.lit 0 [(.slice none 0 0)] 35 [] H fun v8 H =>
    W.fieldAddr 0 v1 H fun v9 H =>
    W.get v9 H fun v10 H =>
    (fun Hk3 => W.append 1 35 v8 v10 H fun v11 H =>
    W.fieldAddr 0 v1 H fun v12 H =>
    W.get v12 H fun v13 H =>
    W.chk (fun H k => W.get v12 H k) v13 Hk3 (W.indexAddr 1 v13 (.int .i64 0) H fun v14 H =>
    W.get v14 H fun v15 H =>
    W.chk (fun H k => W.get v14 H k) v15 Hk3 (W.lit 1 [(.slice none 0 0)] 35 [(0, 1, v15)] H fun v16 H =>
    W.append 1 35 v11 v16 H fun v17 H =>
    W.fieldAddr 0 v1 H fun v18 H =>
    W.put v18 v17 H fun _ H =>
    W.flat [v15] HB H fun H =>
    f47.j1 Q v1 v2 H))) H) H)
   (fun H => W.bin .eql v3 (.int .i64 2) H fun v21 H =>
    W.cond v21 H
    (fun H => W.lit 0 [(.slice none 0 0)] 35 [] H fun v22 H =>
     W.fieldAddr 1 v1 H fun v23 H =>
     W.get v23 H fun v24 H =>
     W.append 1 35 v22 v24 H fun v25 H =>
     W.fieldAddr 1 v1 H fun v26 H =>
     W.put v26 v25 H fun _ H =>
     W.fieldAddr 1 v1 H fun v27 H =>
     W.get v27 H fun v28 H =>
     W.indexAddr 1 v28 (.int .i64 0) H fun v29 H =>
     W.get v29 H fun v30 H =>
     W.call Tryz.prog (.func (.func 107) #[] #[]) #[v30] H fun v31 H =>
     W.lit 2 [(.int .i64 0)] 2 [(0, 1, (.int .i64 0)), (1, 1, (.int .i64 21))] H fun v32 H =>
     W.call Tryz.prog (.func (.func 105) #[] #[]) #[s_0, v32] H fun v33 H =>
     W.indexAddr 1 v31 (.int .i64 0) H fun v34 H =>
     W.put v34 v33 H fun _ H =>
     W.fieldAddr 1 v1 H fun v35 H =>
     W.get v35 H fun v36 H =>
     W.indexAddr 1 v36 (.int .i64 0) H fun v37 H =>
     W.put v37 v31 H fun _ H =>
     f47.j2 Q v1 v2 H)
    (fun H => f47.j2 Q v1 v2 H)))
theorem f47.enter {Q : Post} {s_0 : Value} {g_1 : Value} {H : Heap} (h : f47.w Q s_0 g_1 H) : Runs Tryz.prog 47 #[s_0, g_1] H Q :=
  fn_enter (ann := []) (by kernel_rfl) Tryz.func47 rfl (by kernel_rfl) h (by kernel_rfl)

/- loop.example/g01343/spec.l07Draw -/
def f73.w (Q : Post) (s_0 : Value) (H : Heap) : Prop :=
  W.new [(.slice none 0 0), (.slice none 0 0)] 26 H fun v1 H =>
  W.call Tryz.prog (.func (.func 45) #[] #[]) #[s_0] H fun v2 H =>
  W.call Tryz.prog (.func (.func 47) #[] #[]) #[s_0, v2] H fun v3 H =>
  W.putN 2 v1 v3 H fun _ H =>
  W.getN 2 v1 H fun v4 H => Q v4 H
theorem f73.enter {Q : Post} {s_0 : Value} {H : Heap} (h : f73.w Q s_0 H) : Runs Tryz.prog 73 #[s_0] H Q :=
  fn_enter (ann := []) (by kernel_rfl) Tryz.func73 rfl (by kernel_rfl) h (by kernel_rfl)

/- loop.example/g01343/spec.l01Near -/
/- loop.example/g01343/spec.DrawLemkeHowson -/
/- loop.example/g01343/spec.DrawGameProblem -/
/- loop.example/g01343/spec.DrawRemainingChoices -/
/- loop.example/g01343/spec.DrawEquilibriaBySets -/
def f21.w (Q : Post) (code_0 : Value) (H : Heap) : Prop :=
  W.new [(.slice none 0 0), (.slice none 0 0)] 26 H fun v1 H =>
  W.call Tryz.prog (.func (.func 44) #[] #[]) #[code_0] H fun v2 H =>
  W.call Tryz.prog (.func (.func 73) #[] #[]) #[v2] H fun v3 H =>
  W.putN 2 v1 v3 H fun _ H =>
  W.getN 2 v1 H fun v4 H => Q v4 H
theorem f21.enter {Q : Post} {code_0 : Value} {H : Heap} (h : f21.w Q code_0 H) : Runs Tryz.prog 21 #[code_0] H Q :=
  fn_enter (ann := []) (by kernel_rfl) Tryz.func21 rfl (by kernel_rfl) h (by kernel_rfl)

/- loop.example/g01343/spec.DrawExchangePlayers -/
def f39.w (Q : Post) (code_0 : Value) (H : Heap) : Prop :=
  W.new [(.slice none 0 0), (.slice none 0 0)] 26 H fun v1 H =>
  W.call Tryz.prog (.func (.func 44) #[] #[]) #[code_0] H fun v2 H =>
  W.call Tryz.prog (.func (.func 73) #[] #[]) #[v2] H fun v3 H =>
  W.putN 2 v1 v3 H fun _ H =>
  W.getN 2 v1 H fun v4 H => Q v4 H
theorem f39.enter {Q : Post} {code_0 : Value} {H : Heap} (h : f39.w Q code_0 H) : Runs Tryz.prog 39 #[code_0] H Q :=
  fn_enter (ann := []) (by kernel_rfl) Tryz.func39 rfl (by kernel_rfl) h (by kernel_rfl)


/-- A game of a size that is not too large. -/
def SmallA (g : Game) : Prop := g.1.length ≤ 6 ∧ (∀ r ∈ g.1, r.length ≤ 6) ∧ g.2.length ≤ 6 ∧ ∀ r ∈ g.2, r.length ≤ 6

theorem SmallA.w {g : Game} (h : SmallA g) : wGame g ≤ 1048576 := by
  obtain ⟨h1, h2, h3, h4⟩ := h
  have e1 := szl_le (w := List.length) (c := 6) g.1 h2
  have e2 := szl_le (w := List.length) (c := 6) g.2 h4
  simp only [szp, wl]
  omega

/-- What is drawn: k rows, l columns. -/
structure IsKL (k l : Nat) (g : Game) : Prop where
  k1 : 1 ≤ k ∧ k ≤ 4
  l1 : 1 ≤ l ∧ l ≤ 4
  a : g.1.length = k
  ar : ∀ r ∈ g.1, r.length = l
  b : g.2.length = k
  br : ∀ r ∈ g.2, r.length = l

theorem IsKL.small {k l : Nat} {g : Game} (h : IsKL k l g) : SmallA g := by
  obtain ⟨h1, h2, h3, h4, h5, h6⟩ := h
  exact ⟨by omega, fun r hr => by have := h4 r hr; omega, by omega, fun r hr => by have := h6 r hr; omega⟩

section
variable {H0 H : Heap} {L : List (Atom H0.next)} {Q : Post} {b i : Nat} {vc : Value} {code : List Int}

abbrev nil2 : List Value := [.slice none 0 0, .slice none 0 0]

/-- The rows of both tables. -/
theorem drawGm_end {k l b15 b1 : Nat} {most kind : Int} (h : Ab.Loc H0 (.box b15 nil2 :: .box b1 nil2 :: L) H) (hi : L[i]? = some (.src b vc code)) (hk : 1 ≤ k ∧ k ≤ 4) (hl : 1 ≤ l ∧ l ≤ 4) (hm : 2 ≤ most ∧ most ≤ 20)
    (hQ : ∀ H' u1 u2 g k l, Ab.Loc H0 (.data RGame [u1, u2] g :: L) H' → IsKL k l g → Q (.agg #[u1, u2]) H') :
    W.loop (S := St [8]) (fun I1 s H => f45.l1 Q (.int .i64 (k : Nat)) (.int .i64 (l : Nat)) (pt b 0) (.int .i64 most) (.int .i64 kind) (pt b15 0) (pt b1 0) I1 s.1 H) ((.int .i64 0), ()) H := by
  have h : Ab.Loc H0 (.box b15 nil2 :: .grow RS 35 (.slice none 0 0) [] :: .grow RS 35 (.slice none 0 0) [] :: .box b1 nil2 :: L) H := ((h.nilG RS 35).nilG RS 35).front 2 rfl
  refine W.for_rule k (fun y st H => ∃ u1 u2 A B, st = (.int .i64 (y : Nat), ()) ∧ A.length = y ∧ (∀ r ∈ A, r.length = l) ∧ B.length = y ∧ (∀ r ∈ B, r.length = l) ∧ Ab.Loc H0 (.box b15 [u1, u2] :: .grow RS 35 u1 A :: .grow RS 35 u2 B :: .box b1 nil2 :: L) H) ⟨_, _, [], [], rfl, rfl, (fun r hr => by cases hr), rfl, (fun r hr => by cases hr), h⟩ ?_
  rintro y st H J hy ⟨u1, u2, A, B, rfl, hA, hAr, hB, hBr, h⟩ hJ
  refine Wi.lssC (fun hlt => Wi.tru ?_) fun hge => Wi.fls ?_
  · have hym : y < k := by omega
    have hI : I64 ((y : Int) + 1) := by unfold I64; omega
    refine Wl.lit0 (ty := 2) Rd.int rfl h fun H wa h => Wl.lit0 (ty := 2) Rd.int rfl h fun H wb h => ?_
    refine W.for_rule l (fun j st H => ∃ wa wb ra rb, st = (wa, wb, .int .i64 (j : Nat), ()) ∧ ra.length = j ∧ rb.length = j ∧ Ab.Loc H0 (.grow Rd.int 2 wb rb :: .grow Rd.int 2 wa ra :: .box b15 [u1, u2] :: .grow RS 35 u1 A :: .grow RS 35 u2 B :: .box b1 nil2 :: L) H) ⟨wa, wb, [], [], rfl, rfl, rfl, h⟩ ?_
    rintro j st H J2 hj ⟨wa, wb, ra, rb, rfl, hra, hrb, h⟩ hJ2
    refine Wi.lssC (fun hlt2 => Wi.tru ?_) fun hge2 => Wi.fls ?_
    · have hjl : j < l := by omega
      refine Wi.call (fn103 (i := i + 6) h (by simpa using hi) fun H x h hx hx2 => Wi.add (by unfold I64; omega) (Wi.call (fn103 (i := i + 6) h (by simpa using hi) fun H z h hz hz2 => Wi.add (by unfold I64; omega) ?_)))
      have hx2 := hx2 (by omega)
      have hz2 := hz2 (by omega)
      have fin : ∀ t : Int, I64 t → f45.j3 Q (.int .i64 (1 + x)) wa wb (.int .i64 (j : Nat)) J2 (.int .i64 t) H := fun t ht => by
        unfold f45.j3
        refine Wl.pushP (r := Rd.int) (x := 1 + x) (i := 1) rfl rfl rfl (fun _ => ⟨rfl, rfl, by unfold I64; omega⟩) h (by omega) fun H wa' h => ?_
        have h : Ab.Loc H0 (.grow Rd.int 2 wb rb :: .grow Rd.int 2 wa' (ra ++ [1 + x]) :: .box b15 [u1, u2] :: .grow RS 35 u1 A :: .grow RS 35 u2 B :: .box b1 nil2 :: L) H := h
        refine Wl.pushP (r := Rd.int) (x := t) (i := 0) rfl rfl rfl (fun _ => ⟨rfl, rfl, ht⟩) h (by omega) fun H wb' h => ?_
        have h : Ab.Loc H0 (.grow Rd.int 2 wb' (rb ++ [t]) :: .grow Rd.int 2 wa' (ra ++ [1 + x]) :: .box b15 [u1, u2] :: .grow RS 35 u1 A :: .grow RS 35 u2 B :: .box b1 nil2 :: L) H := h
        exact Wi.add (by unfold I64; omega) (hJ2 _ _ hjl ⟨wa', wb', ra ++ [1 + x], rb ++ [t], rfl, by simp; omega, by simp; omega, h⟩)
      have mid : ∀ t : Int, I64 t → f45.j2 Q (.int .i64 kind) (.int .i64 (1 + x)) wa wb (.int .i64 (j : Nat)) J2 (.int .i64 t) H := fun t ht => by
        unfold f45.j2
        exact Wi.eqlC (fun _ => Wi.tru (fin _ (by unfold I64; omega))) fun _ => Wi.fls (fin _ ht)
      exact Wi.eqlC (fun _ => Wi.tru (Wi.add (by unfold I64; omega) (Wi.sub (by unfold I64; omega) (mid _ (by unfold I64; omega))))) fun _ => Wi.fls (mid _ (by unfold I64; omega))
    · have hjl : j = l := by omega
      have h := (h.asData (i := 0) rfl).asData (i := 1) rfl
      have h : Ab.Loc H0 (.data RS [wb] rb :: .data RS [wa] ra :: .box b15 [u1, u2] :: .grow RS 35 u1 A :: .grow RS 35 u2 B :: .box b1 nil2 :: L) H := h
      have hcu := (h.rd (cs := [wa]) (r := RS) (x := ra)).one
      have hcb := (h.rd (cs := [wb]) (r := RS) (x := rb)).one
      refine Wi.fieldAddr (Wl.get (b := b15) (o := 0) h rfl ?_)
      refine Wl.pushO (r := RS) (u := wa) (x := ra) (i := 3) (j := 1) (L2 := fun v' => .data RS [wb] rb :: .data RS [wa] ra :: .box b15 [u1, u2] :: .grow RS 35 v' (A ++ [ra]) :: .grow RS 35 u2 B :: .box b1 nil2 :: L) (L3 := fun v' => .data RS [wb] rb :: .emp :: .box b15 [u1, u2] :: .grow RS 35 v' (A ++ [ra]) :: .grow RS 35 u2 B :: .box b1 nil2 :: L) rfl h (by decide) hcu (by omega) fun H u1' h => ?_
      have h : Ab.Loc H0 (.data RS [wb] rb :: .box b15 [u1, u2] :: .grow RS 35 u1' (A ++ [ra]) :: .grow RS 35 u2 B :: .box b1 nil2 :: L) H := h.cut 1
      have k1 := (h.rd (cs := [u1']) (r := RSS) (x := A ++ [ra])).cell1
      refine Wi.fieldAddr (Wl.put (b := b15) (o := 0) (i := 1) h k1 (by simp) fun H h => Wi.fieldAddr (Wl.get (b := b15) (o := 1) h rfl ?_))
      have h : Ab.Loc H0 (.data RS [wb] rb :: .box b15 [u1', u2] :: .grow RS 35 u1' (A ++ [ra]) :: .grow RS 35 u2 B :: .box b1 nil2 :: L) H := h
      refine Wl.pushO (r := RS) (u := wb) (x := rb) (i := 3) (j := 0) (L2 := fun v' => .data RS [wb] rb :: .box b15 [u1', u2] :: .grow RS 35 u1' (A ++ [ra]) :: .grow RS 35 v' (B ++ [rb]) :: .box b1 nil2 :: L) (L3 := fun v' => .emp :: .box b15 [u1', u2] :: .grow RS 35 u1' (A ++ [ra]) :: .grow RS 35 v' (B ++ [rb]) :: .box b1 nil2 :: L) rfl h (by decide) hcb (by omega) fun H u2' h => ?_
      have h : Ab.Loc H0 (.box b15 [u1', u2] :: .grow RS 35 u1' (A ++ [ra]) :: .grow RS 35 u2' (B ++ [rb]) :: .box b1 nil2 :: L) H := h.tl
      have k2 := (h.rd (cs := [u2']) (r := RSS) (x := B ++ [rb])).cell1
      refine Wi.fieldAddr (Wl.put (b := b15) (o := 1) (i := 0) h k2 (by simp) fun H h => Wi.add hI (hJ _ _ hym ⟨u1', u2', A ++ [ra], B ++ [rb], rfl, by simp; omega, fun q hq => ?_, by simp; omega, fun q hq => ?_, h⟩))
      · rcases List.mem_append.1 hq with hq | hq
        · exact hAr q hq
        · rw [List.mem_singleton] at hq; rw [hq]; omega
      · rcases List.mem_append.1 hq with hq | hq
        · exact hBr q hq
        · rw [List.mem_singleton] at hq; rw [hq]; omega
  · have hym : y = k := by omega
    have h := (h.asData (i := 1) rfl).asData (i := 2) rfl
    have h : Ab.Loc H0 (.box b15 [u1, u2] :: .data RSS [u1] A :: .data RSS [u2] B :: .box b1 nil2 :: L) H := h
    have k1 := (h.rd (cs := [u1]) (r := RSS) (x := A)).cell1
    have k2 := (h.rd (cs := [u2]) (r := RSS) (x := B)).cell1
    refine Wl.getA (b := b15) h rfl (Wl.putA (b := b1) (i := 3) h rfl rfl (by simp [k1, k2]) fun H h => Wl.getA (b := b1) h rfl ?_)
    have h : Ab.Loc H0 (.box b15 [u1, u2] :: .data RSS [u1] A :: .data RSS [u2] B :: .box b1 [u1, u2] :: L) H := h
    have h := h.pair (i := 1) (j := 2) rfl rfl (by decide)
    have h : Ab.Loc H0 (.box b15 [u1, u2] :: .data RGame [u1, u2] (A, B) :: .emp :: .box b1 [u1, u2] :: L) H := h
    exact hQ _ u1 u2 (A, B) k l (((h.cut 0).cut 1).cut 1) ⟨hk, hl, by show A.length = k; omega, hAr, by show B.length = k; omega, hBr⟩

theorem fn45 (h : Ab.Loc H0 L H) (hi : L[i]? = some (.src b vc code)) (hQ : ∀ H' u1 u2 g k l, Ab.Loc H0 (.data RGame [u1, u2] g :: L) H' → IsKL k l g → Q (.agg #[u1, u2]) H') :
    Runs Tryz.prog 45 #[pt b 0] H Q := by
  refine f45.enter ?_
  unfold f45.w
  refine Wl.new h fun H b1 h => Wi.call (fn103 (i := i + 1) h (by simpa using hi) fun H x h hx hx4 => ?_)
  have hx4 := hx4 (by decide)
  obtain ⟨k, hk⟩ : ∃ k : Nat, 1 + x = (k : Int) := ⟨(1 + x).toNat, by omega⟩
  refine Wi.add (by unfold I64; omega) ?_
  rw [hk]
  refine Wi.sub (by unfold I64; omega) (Wi.call (fn103 (i := i + 1) h (by simpa using hi) fun H y h hy hy2 => ?_))
  have hy2 := hy2 (by omega)
  obtain ⟨l, hl⟩ : ∃ l : Nat, 1 + y = (l : Int) := ⟨(1 + y).toNat, by omega⟩
  refine Wi.add (by unfold I64; omega) ?_
  rw [hl]
  refine Wi.call (fn103 (i := i + 1) h (by simpa using hi) fun H z h _ _ => ?_)
  have h : Ab.Loc H0 (.box b1 nil2 :: L) H := h
  have go : ∀ (k l : Nat) (H : Heap), 1 ≤ k ∧ k ≤ 4 → 1 ≤ l ∧ l ≤ 4 → Ab.Loc H0 (.box b1 nil2 :: L) H → f45.j1 Q (pt b 0) (pt b1 0) (.int .i64 (k : Nat)) (.int .i64 (l : Nat)) H := fun k l H hk hl h => by
    unfold f45.j1
    refine Wi.build (cells := nil2) rfl (Wl.litN [2, 4, 9, 20] rfl (by decide) (by simp [I64]) rfl h fun H vl h => Wi.call (fn105 (i := i + 2) h (by simpa using hi) (fun H h => h.rd (cs := [vl])) (by decide) fun H most h ht => ?_))
    have ht : 2 ≤ most ∧ most ≤ 20 := by simp at ht; omega
    have h := h.tl
    refine Wi.call (fn103 (i := i + 1) h (by simpa using hi) fun H kind h _ _ => Wl.new h fun H b15 h => Wl.putA (b := b15) h rfl rfl rfl fun H h => ?_)
    have h : Ab.Loc H0 (.box b15 nil2 :: .box b1 nil2 :: L) H := h
    exact drawGm_end h hi hk hl ht hQ
  refine Wi.eqlC (fun _ => Wi.tru ?_) fun _ => Wi.fls (go k l H (by omega) (by omega) h)
  refine Wl.litN [2, 3] rfl (by decide) (by simp [I64]) rfl h fun H vl h => Wi.call (fn105 (i := i + 2) h (by simpa using hi) (fun H h => h.rd (cs := [vl])) (by decide) fun H t h ht => ?_)
  have ht : t = 2 ∨ t = 3 := by simpa using ht
  rcases ht with rfl | rfl
  · exact go 2 2 H (by decide) (by decide) h.tl
  · exact go 2 3 H (by decide) (by decide) h.tl

theorem kept_of {HB H : Heap} {v : Value} {xs : List Int} (h1 : Has RS HB [v] xs) (h2 : Has RS H [v] xs) (hx : xs ≠ []) : keptV HB H v := by
  obtain ⟨_, h1⟩ := h1
  obtain ⟨_, h2⟩ := h2
  rcases h1 with ⟨h, _⟩ | ⟨b1, o, e, kb, fs, _, hv, s⟩
  · exact absurd h hx
  rcases h2 with ⟨h, _⟩ | ⟨b2, o2, e2, kb2, fs2, _, hv2, s2⟩
  · exact absurd h hx
  simp only [List.cons.injEq, and_true] at hv hv2
  rw [hv] at hv2
  have hb : b1 = b2 := by
    have := congrArg (fun v => match v with | .slice (some a) _ _ => a.block | _ => 0) hv2
    exact this
  refine .inr ⟨Go.Ab.adr b1 o, _, e, hv, s.lt, ?_⟩
  rw [show (Go.Ab.adr b1 o).block = b2 from hb, s2.blk]
  simp

theorem fn47 {u1 u2 : Value} {g : Game} {k l : Nat} (h : Ab.Loc H0 (.data RGame [u1, u2] g :: L) H) (hi : L[i]? = some (.src b vc code)) (hg : IsKL k l g) (hQ : ∀ H' u1 u2 g, Ab.Loc H0 (.view RGame [u1, u2] g :: L) H' → SmallA g → Q (.agg #[u1, u2]) H') :
    Runs Tryz.prog 47 #[pt b 0, .agg #[u1, u2]] H Q := by
  have hsm := hg.small
  obtain ⟨k1, l1, ga, gar, gb, gbr⟩ := hg
  obtain ⟨s1, s2, s3, s4⟩ := hsm
  refine f47.enter ?_
  unfold f47.w
  refine Wl.box (cs := [u1, u2]) h fun H bp h => Wl.new h fun H b2 h => Wi.call (fn103 (i := i + 3) h (by simpa using hi) fun H x h hx _ => ?_)
  have h : Ab.Loc H0 (.box b2 nil2 :: .box bp [u1, u2] :: .data RGame [u1, u2] g :: L) H := h
  refine Wi.eqlC (fun _ => Wi.tru ?_) fun _ => Wi.fls ?_
  · refine Wi.build (cells := nil2) rfl (Wl.putA (b := b2) (i := 0) h rfl rfl rfl fun H h => Wl.getA (b := b2) h rfl ?_)
    have h : Ab.Loc H0 (.box b2 nil2 :: .box bp [u1, u2] :: .data RGame [u1, u2] g :: L) H := h
    have h : Ab.Loc H0 ([] ++ L) H := ((h.cut 0).cut 0).cut 0
    exact hQ _ _ _ ([], []) (h.seen fun F hF => ⟨[], ⟨[], [], [_], [_], rfl, rfl, .inl ⟨rfl, rfl, .inl rfl⟩, .inl ⟨rfl, rfl, .inl rfl⟩⟩, fun b hb => by cases hb⟩) ⟨by simp, by simp, by simp, by simp⟩
  have h : Ab.Loc H0 (.data RGame [u1, u2] g :: .box b2 nil2 :: .box bp [u1, u2] :: L) H := h.front 2 rfl
  have h := h.unpair (r := RSS) (s := RSS) (c1 := [u1]) (c2 := [u2]) (x := g.1) (y := g.2) rfl
  have fin : ∀ H w1 w2 (g : Game), SmallA g → Ab.Loc H0 (.view RGame [w1, w2] g :: .box b2 nil2 :: .box bp [w1, w2] :: L) H → f47.j1 Q (pt bp 0) (pt b2 0) H := fun H w1 w2 g hg h => by
    unfold f47.j1
    have kc := (h.rd (cs := [w1, w2]) (r := RGame) (x := g)).cell
    refine Wl.getA (b := bp) h rfl (Wl.putA (b := b2) (i := 1) h rfl rfl kc fun H h => Wl.getA (b := b2) h rfl ?_)
    have h : Ab.Loc H0 (.view RGame [w1, w2] g :: .box b2 [w1, w2] :: .box bp [w1, w2] :: L) H := h
    exact hQ _ _ _ _ ((h.cut 1).cut 1) hg
  have a0 : 0 < g.1.length := by omega
  have b0 : 0 < g.2.length := by omega
  refine Wi.eqlC (fun _ => Wi.tru ?_) fun _ => Wi.fls (Wi.eqlC (fun _ => Wi.tru ?_) fun _ => Wi.fls ?_)
  · obtain ⟨us, hus, h⟩ := h.heads (i := 0) rfl rfl
    have h : Ab.Loc H0 (.rows RS u1 us g.1 :: .data RSS [u2] g.2 :: .box b2 nil2 :: .box bp [u1, u2] :: L) H := h
    have hu0 : 0 < us.length := by omega
    have hw0 : us[0]? = some us[0] := List.getElem?_eq_getElem hu0
    have hB := h.row (j := 0) rfl rfl hw0 a0
    have hne : g.1[0] ≠ [] := fun e => by
      have := gar _ (List.getElem_mem a0)
      rw [e] at this
      simp at this
      omega
    refine Wl.lit0 (ty := 35) Rd.raw rfl h fun H w h => Wi.fieldAddr (Wl.get (b := bp) (o := 0) h rfl ?_)
    have hk := h
    refine Wl.appendH (zs := us) (i := 0) rfl h rfl (h.rawOf rfl (i := 1) rfl) (by simp; omega) fun H w1 h => ?_
    have h : Ab.Loc H0 (.grow Rd.raw 35 w1 us :: .rows RS u1 us g.1 :: .data RSS [u2] g.2 :: .box b2 nil2 :: .box bp [u1, u2] :: L) H := h
    refine Wi.fieldAddr (Wl.get (b := bp) (o := 0) h rfl (Wi.chk (Wl.get (b := bp) (o := 0) hk rfl ⟨rfl, rfl⟩) ?_))
    refine Wl.adrH (h.rawOf rfl (i := 1) rfl) hu0 (Wl.ldRaw (h.rawOf rfl (i := 1) rfl) hu0 (Wi.chk (Wl.ldRaw (hk.rawOf rfl (i := 1) rfl) hu0 ⟨rfl, rfl⟩) ?_))
    refine Wl.pushP (r := Rd.raw) (x := us[0]) (i := 0) rfl rfl hB.one (fun _ => ⟨rfl, rfl, hB.cell1⟩) h (by omega) fun H w2 h => ?_
    have h : Ab.Loc H0 (.grow Rd.raw 35 w2 (us ++ [us[0]]) :: .rows RS u1 us g.1 :: .data RSS [u2] g.2 :: .box b2 nil2 :: .box bp [u1, u2] :: L) H := h
    have kc := (h.rd (cs := [w2]) (r := Rd.slice Rd.raw)).cell1
    refine Wi.fieldAddr (Wl.put (b := bp) (o := 0) (i := 4) h kc (by simp) fun H h => ?_)
    have h := h.asData (i := 0) rfl
    have h : Ab.Loc H0 ([.data (Rd.slice Rd.raw) [w2] (us ++ [us[0]]), .rows RS u1 us g.1, .data RSS [u2] g.2] ++ (.box b2 nil2 :: .box bp [w2, u2] :: L)) H := h
    refine Wi.flat1 (kept_of hB (h.row (j := 1) rfl rfl hw0 a0) hne) (fin _ w2 u2 (g.1 ++ [g.1[0]], g.2) ⟨by simp; omega, fun r hr => ?_, s3, s4⟩ (h.seen fun F hF => ?_))
    · rcases List.mem_append.1 hr with hr | hr
      · exact s2 r hr
      · rw [List.mem_singleton] at hr; rw [hr]; exact s2 _ (List.getElem_mem a0)
    · have p0 := hF 0 _ rfl
      have p1 := hF 1 _ rfl
      have p2 := hF 2 _ rfl
      obtain ⟨bs1, e1, e2⟩ := raw_rows (r := RS) rfl (xs := g.1 ++ [g.1[0]]) (fun b => b ∈ F 1) p0.1 (by simp; omega) fun i hi => by
        by_cases c : i < us.length
        · have cg : i < g.1.length := by omega
          rw [List.getElem_append_left c, List.getElem_append_left cg]
          exact rows_one rfl p1.1 p1.2.2.2.1 p1.2.2.2.2 cg
        · have hiu : i = us.length := by simp at hi; omega
          subst hiu
          have eg : (g.1 ++ [g.1[0]])[us.length]'(by simp; omega) = g.1[0] := by
            rw [List.getElem_append_right (by omega)]
            simp
          rw [List.getElem_append_right (by omega), eg]
          simp only [Nat.sub_self, List.getElem_cons_zero]
          exact rows_one rfl p1.1 p1.2.2.2.1 p1.2.2.2.2 a0
      refine ⟨bs1 ++ F 2, ⟨bs1, F 2, [w2], [u2], rfl, rfl, e1, p2.1⟩, fun b hb => ?_⟩
      rcases List.mem_append.1 hb with hb | hb
      · rcases e2 b hb with hb | hb
        · exact .inr ⟨0, by simp, hb⟩
        · exact .inr ⟨1, by simp, hb⟩
      · exact .inr ⟨2, by simp, hb⟩
  · obtain ⟨us, hus, h⟩ := h.heads (i := 1) rfl rfl
    have h : Ab.Loc H0 (.data RSS [u1] g.1 :: .rows RS u2 us g.2 :: .box b2 nil2 :: .box bp [u1, u2] :: L) H := h
    have hu0 : 0 < us.length := by omega
    have hw0 : us[0]? = some us[0] := List.getElem?_eq_getElem hu0
    have hrl := gbr _ (List.getElem_mem b0)
    refine Wl.lit0 (ty := 35) Rd.raw rfl h fun H w h => Wi.fieldAddr (Wl.get (b := bp) (o := 1) h rfl ?_)
    refine Wl.appendH (zs := us) (i := 0) rfl h rfl (h.rawOf rfl (i := 2) rfl) (by simp; omega) fun H w1 h => ?_
    have h : Ab.Loc H0 (.grow Rd.raw 35 w1 us :: .data RSS [u1] g.1 :: .rows RS u2 us g.2 :: .box b2 nil2 :: .box bp [u1, u2] :: L) H := h
    have h := h.asData (i := 0) rfl
    have h : Ab.Loc H0 (.data (Rd.slice Rd.raw) [w1] us :: .data RSS [u1] g.1 :: .rows RS u2 us g.2 :: .box b2 nil2 :: .box bp [u1, u2] :: L) H := h
    have kc := (h.rd (cs := [w1]) (r := Rd.slice Rd.raw)).cell1
    refine Wi.fieldAddr (Wl.put (b := bp) (o := 1) (i := 4) h kc (by simp) fun H h => ?_)
    have h : Ab.Loc H0 (.data (Rd.slice Rd.raw) [w1] us :: .data RSS [u1] g.1 :: .rows RS u2 us g.2 :: .box b2 nil2 :: .box bp [u1, w1] :: L) H := h
    refine Wi.fieldAddr (Wl.get (b := bp) (o := 1) h rfl (Wl.atRaw (h.rd (cs := [w1]) (r := Rd.slice Rd.raw)) hu0 (Wi.call (fn107 (h.row (j := 2) rfl rfl hw0 b0) (by omega) fun H vr f => ?_))))
    have h := h.addG f
    refine Wl.litN [0, 21] rfl (by decide) (by simp [I64]) rfl h fun H vl h => Wi.call (fn105 (i := i + 7) h (by simpa using hi) (fun H h => h.rd (cs := [vl])) (by decide) fun H t h ht => ?_)
    have ht : I64 t := by simp at ht; unfold I64; omega
    have h := h.tl
    have h : Ab.Loc H0 (.grow Rd.int 2 vr g.2[0] :: .data (Rd.slice Rd.raw) [w1] us :: .data RSS [u1] g.1 :: .rows RS u2 us g.2 :: .box b2 nil2 :: .box bp [u1, w1] :: L) H := h
    refine Wl.setG (v := vr) (j := 0) h (i := 0) (by omega) ht fun H h => ?_
    have h := h.asData (i := 0) rfl
    have h : Ab.Loc H0 (.data RS [vr] (g.2[0].set 0 t) :: .data (Rd.slice Rd.raw) [w1] us :: .data RSS [u1] g.1 :: .rows RS u2 us g.2 :: .box b2 nil2 :: .box bp [u1, w1] :: L) H := h
    have kr := (h.rd (cs := [vr]) (r := RS)).cell1
    refine Wi.fieldAddr (Wl.get (b := bp) (o := 1) h rfl (Wl.setRaw (v := w1) (u := vr) (j := 1) h (i := 0) hu0 kr fun H h => ?_))
    have h : Ab.Loc H0 ([.data RS [vr] (g.2[0].set 0 t), .data (Rd.slice Rd.raw) [w1] (us.set 0 vr), .data RSS [u1] g.1, .rows RS u2 us g.2] ++ (.box b2 nil2 :: .box bp [u1, w1] :: L)) H := h
    unfold f47.j2
    refine fin _ u1 w1 (g.1, g.2.set 0 (g.2[0].set 0 t)) ⟨s1, s2, by simpa using s3, fun r hr => ?_⟩ (h.seen fun F hF => ?_)
    · rcases List.mem_or_eq_of_mem_set hr with g' | g'
      · exact s4 r g'
      · rw [g', List.length_set]; omega
    · have p0 := hF 0 _ rfl
      have p1 := hF 1 _ rfl
      have p2 := hF 2 _ rfl
      have p3 := hF 3 _ rfl
      obtain ⟨bs1, e1, e2⟩ := raw_rows (r := RS) rfl (xs := g.2.set 0 (g.2[0].set 0 t)) (fun b => b ∈ F 0 ∨ b ∈ F 3) p1.1 (by simp; omega) fun i hi => by
        have hiu : i < us.length := by simpa using hi
        by_cases c : i = 0
        · subst c
          rw [List.getElem_set_self, List.getElem_set_self]
          exact ⟨_, p0.1, fun b hb => .inl hb⟩
        · rw [List.getElem_set_ne (fun e => c e.symm), List.getElem_set_ne (fun e => c e.symm)]
          obtain ⟨bsi, q1, q2⟩ := rows_one rfl p3.1 p3.2.2.2.1 p3.2.2.2.2 (i := i) (by omega)
          exact ⟨bsi, q1, fun b hb => .inr (q2 b hb)⟩
      refine ⟨F 2 ++ bs1, ⟨F 2, bs1, [u1], [w1], rfl, rfl, p2.1, e1⟩, fun b hb => ?_⟩
      rcases List.mem_append.1 hb with hb | hb
      · exact .inr ⟨2, by simp, hb⟩
      · rcases e2 b hb with hb | hb | hb
        · exact .inr ⟨1, by simp, hb⟩
        · exact .inr ⟨0, by simp, hb⟩
        · exact .inr ⟨3, by simp, hb⟩
  · unfold f47.j2
    have h : Ab.Loc H0 ([.data RSS [u1] g.1, .data RSS [u2] g.2] ++ (.box b2 nil2 :: .box bp [u1, u2] :: L)) H := h
    refine fin _ u1 u2 g ⟨s1, s2, s3, s4⟩ (h.seen fun F hF => ?_)
    have p0 := hF 0 _ rfl
    have p1 := hF 1 _ rfl
    refine ⟨F 0 ++ F 1, ⟨F 0, F 1, [u1], [u2], rfl, rfl, p0.1, p1.1⟩, fun b hb => ?_⟩
    rcases List.mem_append.1 hb with hb | hb
    · exact .inr ⟨0, by simp, hb⟩
    · exact .inr ⟨1, by simp, hb⟩

theorem fn73 (h : Ab.Loc H0 L H) (hi : L[i]? = some (.src b vc code)) (hQ : ∀ H' u1 u2 g, Ab.Loc H0 (.view RGame [u1, u2] g :: L) H' → SmallA g → Q (.agg #[u1, u2]) H') :
    Runs Tryz.prog 73 #[pt b 0] H Q := by
  refine f73.enter ?_
  unfold f73.w
  refine Wl.new h fun H b1 h => Wi.call (fn45 (i := i + 1) h (by simpa using hi) fun H u1 u2 g k l h hg => Wi.call (fn47 (i := i + 1) h (by simpa using hi) hg fun H w1 w2 g h hg => ?_))
  have kc := (h.rd (cs := [w1, w2]) (r := RGame)).cell
  refine Wl.putA (b := b1) (i := 1) h rfl rfl kc fun H h => Wl.getA (b := b1) h rfl ?_
  exact hQ _ w1 w2 g (h.cut 1) hg

end

section
variable {H0 : Heap} {Q : Post} {vc : Value} {code : List Int}

theorem fn21 (hc : Has RBytes H0 [vc] code) (hQ : ∀ H' u1 u2 g, H0.Le H' → Has RGame H' [u1, u2] g → SmallA g → Q (.agg #[u1, u2]) H') : Runs Tryz.prog 21 #[vc] H0 Q := by
  refine f21.enter ?_
  unfold f21.w
  refine Wl.new (Loc.start H0) fun H b1 h => Wi.call (fn44 hc h fun H b h => Wi.call (fn73 (i := 0) h rfl fun H u1 u2 p h hp => ?_))
  have kc := (h.rd (cs := [u1, u2]) (r := RGame)).cell
  refine Wl.putA (b := b1) (i := 2) h rfl rfl kc fun H h => Wl.getA (b := b1) h rfl ?_
  exact hQ _ u1 u2 p h.le (h.rd (cs := [u1, u2])) hp

theorem fn39 (hc : Has RBytes H0 [vc] code) (hQ : ∀ H' u1 u2 g, H0.Le H' → Has RGame H' [u1, u2] g → SmallA g → Q (.agg #[u1, u2]) H') : Runs Tryz.prog 39 #[vc] H0 Q := by
  refine f39.enter ?_
  unfold f39.w
  refine Wl.new (Loc.start H0) fun H b1 h => Wi.call (fn44 hc h fun H b h => Wi.call (fn73 (i := 0) h rfl fun H u1 u2 p h hp => ?_))
  have kc := (h.rd (cs := [u1, u2]) (r := RGame)).cell
  refine Wl.putA (b := b1) (i := 2) h rfl rfl kc fun H h => Wl.getA (b := b1) h rfl ?_
  exact hQ _ u1 u2 p h.le (h.rd (cs := [u1, u2])) hp

end
end Go.Proofs.YtbcfknboheghkaaGreat
