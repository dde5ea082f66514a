/- Draws of texts: the source's state told, texts damaged; the loop ends, and its text is not too long. No condition. -/
import Derived.Test.YtgdiebnokgnniaaGreatDoorTXS
import Derived.Test.YtgdiebnokgnniaaGreatDoorGDS
import Derived.Test.YtgdiebnokgnniaaGreatDoorZabLcg
namespace Go.Ab

/-- A source whose state is told. -/
def Atom.srcH {n : Nat} (b : Nat) (vc : Value) (code : List Int) (a g : Nat) : Atom n where
  P := fun H bs => bs = [b] ∧ b < H.next ∧ (∃ (h : Int) (ty : TypeId) (e : Nat), H.blk b = some ⟨[vc, .int .i64 (a : Int), .int .u64 h], ty, e, false⟩ ∧ a ≤ code.length ∧ h % 18446744073709551616 = (g : Int)) ∧ ∃ bs', (Rd.slice Rd.u8).rel H bs' [vc] code ∧ ∀ c ∈ bs', c < n
  low := by rintro H bs ⟨rfl, h, _⟩ c hc; simp at hc; omega
  frame := by
    rintro H H' bs ⟨rfl, h, ⟨hh, ty, e, hb, ha⟩, bs', hr, hl⟩ _ hn hs
    exact ⟨rfl, by omega, ⟨hh, ty, e, by rw [hs b (.inr (by simp))]; exact hb, ha⟩, bs', Rd.frame _ hr hn fun c hc => hs c (.inl (hl c hc)), hl⟩

section
variable {H0 H : Heap} {L : List (Atom H0.next)}

theorem Loc.toH (h : Loc H0 L H) {i b : Nat} {vc : Value} {code : List Int} (hi : L[i]? = some (.src b vc code)) : ∃ a g, a ≤ code.length ∧ Loc H0 (L.set i (.srcH b vc code a g)) H := by
  obtain ⟨bs, ⟨rfl, hb, ⟨a, hh, ty, e, hk, ha⟩, bs', hr, hl⟩, _, up⟩ := h.upd hi
  refine ⟨a, (hh % 18446744073709551616).toNat, ha, up H _ [b] (Nat.le_refl _) (fun _ _ _ => rfl) ⟨rfl, hb, ⟨hh, ty, e, hk, ha, ?_⟩, bs', hr, hl⟩ fun c hc => .inl hc⟩
  have := Int.emod_nonneg hh (show (18446744073709551616 : Int) ≠ 0 by decide)
  omega

theorem Loc.srcH (h : Loc H0 L H) {i b a g : Nat} {vc : Value} {code : List Int} (hi : L[i]? = some (.srcH b vc code a g)) : ∃ (hh : Int) (ty : TypeId) (e : Nat), H.blk b = some ⟨[vc, .int .i64 (a : Int), .int .u64 hh], ty, e, false⟩ ∧ a ≤ code.length ∧ hh % 18446744073709551616 = (g : Int) ∧ Has (Rd.slice Rd.u8) H [vc] code ∧
    ∀ H' (a' g' : Nat) (hh' : Int), H.next ≤ H'.next → (∀ c, c < H.next → c ≠ b → H'.blk c = H.blk c) → H'.blk b = some ⟨[vc, .int .i64 (a' : Int), .int .u64 hh'], ty, e, false⟩ → a' ≤ code.length → hh' % 18446744073709551616 = (g' : Int) → Loc H0 (L.set i (.srcH b vc code a' g')) H' ∧ Has (Rd.slice Rd.u8) H' [vc] code := by
  obtain ⟨bs, ⟨rfl, hb, ⟨hh, ty, e, hk, ha, hg⟩, bs', hr, hl⟩, hlow, up⟩ := h.upd hi
  have hb0 : H0.next ≤ b := hlow b (by simp)
  refine ⟨hh, ty, e, hk, ha, hg, ⟨bs', hr⟩, fun H' a' g' hh' hn hs hb' ha' hg' => ?_⟩
  have hr' : (Rd.slice Rd.u8).rel H' bs' [vc] code := Rd.frame _ hr hn fun c hc => hs c (Rd.low _ hr c hc) fun e => by have := hl c hc; omega
  exact ⟨up H' (.srcH b vc code a' g') [b] hn (fun c hc hcb => hs c hc (by simpa using hcb)) ⟨rfl, by omega, ⟨hh', ty, e, hb', ha', hg'⟩, bs', hr', hl⟩ fun c hc => .inl hc, bs', hr'⟩

end

section
variable {H : Heap} {k : Post}

theorem u64_wrap (n : Int) : IntKind.u64.wrap n = n % 18446744073709551616 := by
  simp only [IntKind.wrap, IntKind.signed, IntKind.bits]
  simp

theorem Wi.mulW {a b : Int} (h : k (.int .u64 (a * b % 18446744073709551616)) H) : W.bin .mul (.int .u64 a) (.int .u64 b) H k := by
  simp only [W.bin, binEval, intEval, if_true, u64_wrap]; exact h
theorem Wi.addW {a b : Int} (h : k (.int .u64 ((a + b) % 18446744073709551616)) H) : W.bin .add (.int .u64 a) (.int .u64 b) H k := by
  simp only [W.bin, binEval, intEval, if_true, u64_wrap]; exact h

theorem lcg_int {hh : Int} {g : Nat} (h : hh % 18446744073709551616 = (g : Int)) : (hh * 6364136223846793005 % 18446744073709551616 + 1442695040888963407) % 18446744073709551616 = ((lcg g : Nat) : Int) := by
  have e1 : ((lcg g : Nat) : Int) = ((g : Int) * 6364136223846793005 + 1442695040888963407) % 18446744073709551616 := by rw [lcg_def]; rfl
  have e2 : hh = (g : Int) + 18446744073709551616 * (hh / 18446744073709551616) := by rw [← h]; exact (Int.emod_add_mul_ediv hh _).symm
  rw [e1, Int.emod_add_emod]
  generalize hh / 18446744073709551616 = q at e2
  rw [e2, Int.add_mul, Int.mul_assoc, Int.add_right_comm, Int.add_mul_emod_self_left]

theorem Wi.shr31 {g : Nat} (h : k (.int .u64 ((g / 2147483648 : Nat) : Int)) H) : W.bin .shr (.int .u64 (g : Nat)) (.int .u64 31) H k := by
  have e : binEval .shr (.int .u64 (g : Nat)) (.int .u64 31) = some (.int .u64 ((g / 2147483648 : Nat) : Int)) := by
    simp only [binEval]
    rw [if_neg (by decide)]
    have e2 : ((2 : Int) ^ min (Int.toNat 31) IntKind.u64.bits) = ((2147483648 : Nat) : Int) := by decide
    rw [e2]
    have e3 : (g : Int).fdiv ((2147483648 : Nat) : Int) = ((g / 2147483648 : Nat) : Int) := (Int.ofNat_fdiv g 2147483648).symm
    rw [e3]
  unfold W.bin
  rw [e]
  exact h

theorem Wi.and30 {a : Nat} (ha : a < 18446744073709551616) (h : k (.int .u64 ((a % 1073741824 : Nat) : Int)) H) : W.bin .and (.int .u64 (a : Nat)) (.int .u64 1073741823) H k := by
  simp only [W.bin, binEval, intEval, if_true]
  have h2 : (BitVec.ofInt IntKind.u64.bits (a : Int) &&& BitVec.ofInt IntKind.u64.bits 1073741823).toNat = a % 1073741824 := by
    rw [BitVec.toNat_and]
    have h1 : (BitVec.ofInt IntKind.u64.bits (1073741823 : Int)).toNat = 2 ^ 30 - 1 := by decide
    have h3 : (BitVec.ofInt IntKind.u64.bits (a : Int)).toNat = a := by
      show (BitVec.ofInt 64 (a : Int)).toNat = a
      rw [BitVec.ofInt_natCast, BitVec.toNat_ofNat]
      omega
    rw [h1, h3, Nat.and_two_pow_sub_one_eq_mod]
  rw [h2, u64_wrap]
  have hlt : a % 1073741824 < 1073741824 := Nat.mod_lt _ (by decide)
  have e : ((a % 1073741824 : Nat) : Int) % 18446744073709551616 = ((a % 1073741824 : Nat) : Int) := by
    generalize a % 1073741824 = c at hlt ⊢
    omega
  rw [e]
  exact h

end
end Go.Ab
namespace Go.Proofs.YtgdiebnokgnniaaGreatDoor
open Go.Ab

/- loop.example/g01343/spec.l01Damage -/
def f80.w (Q : Post) (s_0 : Value) (t_1 : Value) (H : Heap) : Prop :=
  W.lit 10 [(.string { data := #[] })] 9 [(0, 1, (.string { data := #[48] })), (1, 1, (.string { data := #[49] })), (2, 1, (.string { data := #[50] })), (3, 1, (.string { data := #[57] })), (4, 1, (.string { data := #[44] })), (5, 1, (.string { data := #[59] })), (6, 1, (.string { data := #[47] })), (7, 1, (.string { data := #[45] })), (8, 1, (.string { data := #[32] })), (9, 1, (.string { data := #[120] }))] H fun v1 H =>
  W.len v1 H fun v2 H =>
  W.call Tryz.prog (.func (.func 60) #[] #[]) #[s_0, v2] H fun v3 H =>
  W.indexAddr 1 v1 v3 H fun v4 H =>
  W.get v4 H fun v5 H =>
  W.lenStr t_1 H fun v6 H =>
  W.bin .eql v6 (.int .i64 0) H fun v7 H =>
  W.cond v7 H
  (fun H => Q v5 H)
  (fun H => W.lenStr t_1 H fun v8 H =>
   W.call Tryz.prog (.func (.func 60) #[] #[]) #[s_0, v8] H fun v9 H =>
   W.call Tryz.prog (.func (.func 60) #[] #[]) #[s_0, (.int .i64 3)] H fun v10 H =>
   W.bin .eql v10 (.int .i64 0) H fun v11 H =>
   W.cond v11 H
   (fun H => W.sliceStr t_1 none (some v9) H fun v12 H =>
    W.bin .add v12 v5 H fun v13 H =>
    W.bin .add v9 (.int .i64 1) H fun v14 H =>
    W.sliceStr t_1 (some v14) none H fun v15 H =>
    W.bin .add v13 v15 H fun v16 H =>
    Q v16 H)
   (fun H => W.bin .eql v10 (.int .i64 1) H fun v17 H =>
    W.cond v17 H
    (fun H => W.sliceStr t_1 none (some v9) H fun v18 H =>
     W.bin .add v9 (.int .i64 1) H fun v19 H =>
     W.sliceStr t_1 (some v19) none H fun v20 H =>
     W.bin .add v18 v20 H fun v21 H =>
     Q v21 H)
    (fun H => W.sliceStr t_1 none (some v9) H fun v22 H =>
     W.bin .add v22 v5 H fun v23 H =>
     W.sliceStr t_1 (some v9) none H fun v24 H =>
     W.bin .add v23 v24 H fun v25 H =>
     Q v25 H)))
theorem f80.enter {Q : Post} {s_0 : Value} {t_1 : Value} {H : Heap} (h : f80.w Q s_0 t_1 H) : Runs Tryz.prog 80 #[s_0, t_1] H Q :=
  fn_enter (ann := []) (by kernel_rfl) Tryz.func80 rfl (by kernel_rfl) h (by kernel_rfl)


section
variable {H0 H : Heap} {L : List (Atom H0.next)} {Q : Post} {b i a g : Nat} {vc : Value} {code : List Int}

theorem fnH60 {n : Nat} (h : Ab.Loc H0 L H) (hi : L[i]? = some (.srcH b vc code a g)) (hn : 1 ≤ n ∧ n < 9223372036854775808) (hQ : ∀ H' (x : Nat), Ab.Loc H0 (L.set i (.srcH b vc code (min (a + 1) code.length) (lcg g))) H' → x < n → (a = code.length → x = lcgY (lcg g) % n) → Q (.int .i64 (x : Nat)) H') :
    Runs Tryz.prog 60 #[pt b 0, .int .i64 (n : Nat)] H Q := by
  refine f60.enter ?_
  unfold f60.w
  refine Wi.lssC (fun h1 => by omega) fun h1 => Wi.fls ?_
  obtain ⟨hh, ty, e, hk, ha, hg, hc, up⟩ := h.srcH hi
  refine Wi.nilP (Wi.fieldAddr (Wi.get hk rfl (Wi.mulW (Wi.addW ?_))))
  rw [lcg_int hg]
  refine Wi.nilP (Wi.fieldAddr (Wi.put hk rfl rfl (by simp) fun H1 w1 => ?_))
  have k1 : H1.blk b = some ⟨[vc, .int .i64 (a : Int), .int .u64 ((lcg g : Nat) : Int)], ty, e, false⟩ := w1.here
  have hlt64 : lcg g < 18446744073709551616 := by rw [lcg_def]; exact Nat.mod_lt _ (by decide)
  have hem : ((lcg g : Nat) : Int) % 18446744073709551616 = ((lcg g : Nat) : Int) := Int.emod_eq_of_lt (by omega) (by omega)
  obtain ⟨u1, hc1⟩ := up H1 a (lcg g) _ (by rw [w1.next]; exact Nat.le_refl _) (fun c _ hcb => w1.off c hcb) k1 ha hem
  have hdiv : lcg g / 2147483648 < 18446744073709551616 := Nat.lt_of_le_of_lt (Nat.div_le_self _ _) hlt64
  refine Wi.nilP (Wi.fieldAddr (Wi.get k1 rfl (Wi.shr31 (Wi.and30 hdiv (Wi.convI ?_ ?_)))))
  · have : lcg g / 2147483648 % 1073741824 < 1073741824 := Nat.mod_lt _ (by decide)
    generalize lcg g / 2147483648 % 1073741824 = y at this ⊢
    unfold I64
    omega
  have ey : lcg g / 2147483648 % 1073741824 = lcgY (lcg g) := rfl
  rw [ey]
  have hy := lcgY_lt (lcg g)
  generalize hY : lcgY (lcg g) = y at hQ hy ⊢
  refine Wi.nilP (Wi.fieldAddr (Wi.get k1 rfl (Wi.nilP (Wi.fieldAddr (Wi.get k1 rfl ?_)))))
  have hsm := hc1.small
  refine Wl.lenH hc1 (Wi.lssC (fun hlt => Wi.tru ?_) fun hge => Wi.fls ?_)
  · have hac : a < code.length := by omega
    refine Wi.nilP (Wi.fieldAddr (Wi.get k1 rfl (Wi.nilP (Wi.fieldAddr (Wi.get k1 rfl ?_)))))
    refine Wl.at1H (r := Rd.u8) rfl hc1 hac fun u hu => ?_
    obtain ⟨_, hu⟩ := hu
    obtain ⟨_, hu, hx1, hx2⟩ := hu
    simp only [List.cons.injEq, and_true] at hu
    subst hu
    obtain ⟨z, hz⟩ : ∃ z : Nat, code[a] = (z : Int) := ⟨code[a].toNat, by omega⟩
    rw [hz] at hx1 hx2 ⊢
    have ez : (y : Int) + (z : Int) = ((y + z : Nat) : Int) := by omega
    refine Wi.convI (by unfold I64; omega) (Wi.add (by unfold I64; omega) ?_)
    rw [ez]
    refine Wi.nilP (Wi.fieldAddr (Wi.get k1 rfl (Wi.add (by unfold I64; omega) (Wi.nilP (Wi.fieldAddr (Wi.put k1 rfl rfl (by simp) fun H2 w2 => ?_))))))
    have k2 : H2.blk b = some ⟨[vc, .int .i64 ((a + 1 : Nat) : Int), .int .u64 ((lcg g : Nat) : Int)], ty, e, false⟩ := w2.here
    obtain ⟨u2, -⟩ := up H2 (a + 1) (lcg g) _ (by rw [w2.next, w1.next]; exact Nat.le_refl _) (fun c _ hcb => (w2.off c hcb).trans (w1.off c hcb)) k2 (by omega) hem
    unfold f60.j1
    refine Wi.remN (by omega) (hQ _ _ ?_ (Nat.mod_lt _ (by omega)) fun e => by omega)
    rw [show min (a + 1) code.length = a + 1 by omega]
    exact u2
  · have hac : a = code.length := by omega
    unfold f60.j1
    refine Wi.remN (by omega) (hQ _ _ ?_ (Nat.mod_lt _ (by omega)) fun _ => rfl)
    rw [show min (a + 1) code.length = a by omega]
    exact u1

theorem min_step {a c m n : Nat} (h : a ≤ c) : min (min (a + m) c + n) c = min (a + (m + n)) c := by omega

theorem fn80 {t : List UInt8} (h : Ab.Loc H0 L H) (hi : L[i]? = some (.srcH b vc code a g)) (ha : a ≤ code.length) (hlen : t.length ≤ 4294967296)
    (h0 : t.length = 0 → ∀ H' t', t'.length = 1 → Ab.Loc H0 (L.set i (.srcH b vc code (min (a + 1) code.length) (lcgN 1 g))) H' → Q (str t') H')
    (h1 : 0 < t.length → ∀ H' t', t'.length ≤ t.length + 1 → Ab.Loc H0 (L.set i (.srcH b vc code (min (a + 3) code.length) (lcgN 3 g))) H' → Q (str t') H') : Runs Tryz.prog 80 #[pt b 0, str t] H Q := by
  refine f80.enter ?_
  unfold f80.w
  have hil : i < L.length := (List.getElem?_eq_some_iff.1 hi).1
  refine Wl.litS [[48], [49], [50], [57], [44], [59], [47], [45], [32], [120]] rfl (by decide) rfl h fun H v1 h => Wl.lenH (h.rd (cs := [v1])) ?_
  refine Wi.call (fnH60 (i := i + 1) (n := 10) h (by simpa using hi) ⟨by decide, by decide⟩ fun H x h hx _ => ?_)
  have h : Ab.Loc H0 (.data RStrs [v1] [[48], [49], [50], [57], [44], [59], [47], [45], [32], [120]] :: L.set i (.srcH b vc code (min (a + 1) code.length) (lcg g))) H := h
  refine Wl.atStrH (h.rd (cs := [v1]) (x := [[48], [49], [50], [57], [44], [59], [47], [45], [32], [120]])) (i := x) hx ?_
  have hcl : ∀ s ∈ [[48], [49], [50], [57], [44], [59], [47], [45], [32], [(120 : UInt8)]], s.length = 1 := by decide
  have hc1 := hcl _ (List.getElem_mem (l := [[48], [49], [50], [57], [44], [59], [47], [45], [32], [(120 : UInt8)]]) hx)
  generalize ([[48], [49], [50], [57], [44], [59], [47], [45], [32], [(120 : UInt8)]])[x] = c at hc1 ⊢
  have h := h.tl
  refine Wi.lenS (Wi.eqlC (fun e => Wi.tru ?_) fun e => Wi.fls ?_)
  · refine h0 (by omega) H c hc1 ?_
    rw [lcgN_succ, lcgN_zero]
    exact h
  have hpos : 0 < t.length := by omega
  refine Wi.lenS (Wi.call (fnH60 (i := i) (n := t.length) h (List.getElem?_set_self hil) ⟨by omega, by omega⟩ fun H k h hk _ => ?_))
  rw [List.set_set] at h
  refine Wi.call (fnH60 (i := i) (n := 3) h (List.getElem?_set_self hil) ⟨by decide, by decide⟩ fun H d h hd _ => ?_)
  rw [List.set_set, min_step ha, min_step ha] at h
  have e3 : lcg (lcg (lcg g)) = lcgN 3 g := by rw [lcgN_succ, lcgN_succ, lcgN_succ, lcgN_zero]
  rw [e3] at h
  have fin : ∀ t', t'.length ≤ t.length + 1 → Q (str t') H := fun t' ht => h1 hpos H t' ht h
  have hk1 : ((k : Nat) : Int) + 1 = ((k + 1 : Nat) : Int) := by omega
  have htk : (t.take k).length = k := by rw [List.length_take]; omega
  have hdk : (t.drop k).length = t.length - k := List.length_drop
  have hdk1 : (t.drop (k + 1)).length = t.length - (k + 1) := List.length_drop
  refine Wi.eqlC (fun _ => Wi.tru ?_) fun _ => Wi.fls (Wi.eqlC (fun _ => Wi.tru ?_) fun _ => Wi.fls ?_)
  · refine Wi.takeS (by omega) (Wi.cat (by omega) (Wi.add (by unfold I64; omega) ?_))
    rw [hk1]
    exact Wi.dropS (by omega) (Wi.cat (by rw [List.length_append]; omega) (fin _ (by rw [List.length_append, List.length_append]; omega)))
  · refine Wi.takeS (by omega) (Wi.add (by unfold I64; omega) ?_)
    rw [hk1]
    exact Wi.dropS (by omega) (Wi.cat (by omega) (fin _ (by rw [List.length_append]; omega)))
  · exact Wi.takeS (by omega) (Wi.cat (by omega) (Wi.dropS (by omega) (Wi.cat (by rw [List.length_append]; omega) (fin _ (by rw [List.length_append, List.length_append]; omega)))))

end
end Go.Proofs.YtgdiebnokgnniaaGreatDoor
