/- The library's sort of lists of fractions: the whole, below 50 elements. No condition. -/
import Derived.Test.YtdmgomeogedjgaaGreatSQ1
import Derived.Test.YtdmgomeogedjgaaGreatGZB
import Derived.Test.YtdmgomeogedjgaaGreatZabG8
namespace Go.Proofs.YtdmgomeogedjgaaGreat
open Go.Ab

/- slices.breakPatternsCmpFunc[[]loop.example/g01343/impl.Frac] -/
def f100.j1 (Q : Post) (a_1 : Value) (data_0 : Value) (idx_11 : Value) (I1 : St [11] → Heap → Prop) (other_12 : Value) (H : Heap) : Prop :=
  W.bin .add a_1 other_12 H fun v21 H =>
  W.bin .add a_1 other_12 H fun v22 H =>
  W.indexAddr 1 data_0 v22 H fun v23 H =>
  W.get v23 H fun v24 H =>
  W.indexAddr 1 data_0 idx_11 H fun v25 H =>
  W.get v25 H fun v26 H =>
  W.indexAddr 1 data_0 idx_11 H fun v27 H =>
  W.put v27 v24 H fun _ H =>
  W.indexAddr 1 data_0 v21 H fun v28 H =>
  W.put v28 v26 H fun _ H =>
  W.bin .add idx_11 (.int .i64 1) H fun v29 H =>
  I1 (v29, ()) H
def f100.j2 (Q : Post) (H : Heap) : Prop :=
  Q (.tuple #[]) H
def f100.l1 (Q : Post) (v1 : Value) (a_1 : Value) (v4 : Value) (v5 : Value) (data_0 : Value) (I1 : St [11] → Heap → Prop) (idx_11 : Value) (H : Heap) : Prop :=
  W.bin .quo v1 (.int .i64 4) H fun v10 H =>
  W.bin .mul v10 (.int .i64 2) H fun v11 H =>
  W.bin .add a_1 v11 H fun v12 H =>
  W.bin .add v12 (.int .i64 1) H fun v13 H =>
  W.bin .leq idx_11 v13 H fun v14 H =>
  W.cond v14 H
  (fun H => W.call Tryz.prog (.func (.func 142) #[] #[]) #[v4] H fun v15 H =>
   W.bin .sub v5 (.int .u64 1) H fun v16 H =>
   W.bin .and v15 v16 H fun v17 H =>
   W.conv .i64 v17 H fun v18 H =>
   W.bin .geq v18 v1 H fun v19 H =>
   W.cond v19 H
   (fun H => W.bin .sub v18 v1 H fun v20 H =>
    f100.j1 Q a_1 data_0 idx_11 I1 v20 H)
   (fun H => f100.j1 Q a_1 data_0 idx_11 I1 v18 H))
  (fun H => f100.j2 Q H)
def f100.w (Q : Post) (data_0 : Value) (a_1 : Value) (b_2 : Value) (cmp_3 : Value) (H : Heap) : Prop :=
  W.bin .sub b_2 a_1 H fun v1 H =>
  W.bin .geq v1 (.int .i64 8) H fun v2 H =>
  W.cond v2 H
  (fun H => W.conv .u64 v1 H fun v3 H =>
   W.new [(.int .u64 0)] 137 H fun v4 H =>
   W.put v4 v3 H fun _ H =>
   W.call Tryz.prog (.func (.func 141) #[] #[]) #[v1] H fun v5 H =>
   W.bin .quo v1 (.int .i64 4) H fun v6 H =>
   W.bin .mul v6 (.int .i64 2) H fun v7 H =>
   W.bin .add a_1 v7 H fun v8 H =>
   W.bin .sub v8 (.int .i64 1) H fun v9 H =>
   W.loop (S := St [11]) (fun I1 s H => f100.l1 Q v1 a_1 v4 v5 data_0 I1 s.1 H) (v9, ()) H)
  (fun H => f100.j2 Q H)
theorem f100.enter {Q : Post} {data_0 : Value} {a_1 : Value} {b_2 : Value} {cmp_3 : Value} {H : Heap} (h : f100.w Q data_0 a_1 b_2 cmp_3 H) : Runs Tryz.prog 100 #[data_0, a_1, b_2, cmp_3] H Q :=
  fn_enter (ann := [(5, [11])]) (by kernel_rfl) Tryz.func100 rfl (by kernel_rfl) h (by kernel_rfl)

/- slices.nextPowerOfTwo -/
def f141.w (Q : Post) (length_0 : Value) (H : Heap) : Prop :=
  W.conv .u64 length_0 H fun v1 H =>
  W.call Tryz.prog (.func (.func 53) #[] #[]) #[v1] H fun v2 H =>
  W.bin .shl (.int .u64 1) v2 H fun v3 H =>
  Q v3 H
theorem f141.enter {Q : Post} {length_0 : Value} {H : Heap} (h : f141.w Q length_0 H) : Runs Tryz.prog 141 #[length_0] H Q :=
  fn_enter (ann := []) (by kernel_rfl) Tryz.func141 rfl (by kernel_rfl) h (by kernel_rfl)

/- (*slices.xorshift).Next -/
def f142.w (Q : Post) (r_0 : Value) (H : Heap) : Prop :=
  W.nilCheck r_0 H fun v1 H =>
  W.get v1 H fun v2 H =>
  W.nilCheck r_0 H fun v3 H =>
  W.get v3 H fun v4 H =>
  W.bin .shl v4 (.int .u64 13) H fun v5 H =>
  W.bin .xor v2 v5 H fun v6 H =>
  W.nilCheck r_0 H fun v7 H =>
  W.put v7 v6 H fun _ H =>
  W.nilCheck r_0 H fun v8 H =>
  W.get v8 H fun v9 H =>
  W.nilCheck r_0 H fun v10 H =>
  W.get v10 H fun v11 H =>
  W.bin .shr v11 (.int .u64 7) H fun v12 H =>
  W.bin .xor v9 v12 H fun v13 H =>
  W.nilCheck r_0 H fun v14 H =>
  W.put v14 v13 H fun _ H =>
  W.nilCheck r_0 H fun v15 H =>
  W.get v15 H fun v16 H =>
  W.nilCheck r_0 H fun v17 H =>
  W.get v17 H fun v18 H =>
  W.bin .shl v18 (.int .u64 17) H fun v19 H =>
  W.bin .xor v16 v19 H fun v20 H =>
  W.nilCheck r_0 H fun v21 H =>
  W.put v21 v20 H fun _ H =>
  W.nilCheck r_0 H fun v22 H =>
  W.get v22 H fun v23 H =>
  Q v23 H
theorem f142.enter {Q : Post} {r_0 : Value} {H : Heap} (h : f142.w Q r_0 H) : Runs Tryz.prog 142 #[r_0] H Q :=
  fn_enter (ann := []) (by kernel_rfl) Tryz.func142 rfl (by kernel_rfl) h (by kernel_rfl)


section
variable {H : Heap} {K : Post}

theorem Wi.xorU {a b : Int} (h : ∀ c, K (.int .u64 c) H) : W.bin .xor (.int .u64 a) (.int .u64 b) H K := by
  simp only [W.bin, binEval, intEval, if_true]; exact h _
theorem Wi.shlU {a b : Int} (hb : 0 ≤ b) (h : ∀ c, K (.int .u64 c) H) : W.bin .shl (.int .u64 a) (.int .u64 b) H K := by
  simp only [W.bin, binEval]
  rw [if_neg (by omega)]
  exact h _

theorem wrapU {m : Nat} (h : m < 18446744073709551616) : IntKind.u64.wrap (m : Int) = m := by
  simp only [IntKind.wrap, IntKind.signed, IntKind.bits]
  simp
  omega

theorem Wi.shl1U {n : Nat} (hn : n ≤ 62) (h : K (.int .u64 ((2 ^ n : Nat) : Int)) H) : W.bin .shl (.int .u64 1) (.int .i64 (n : Nat)) H K := by
  have e : (1 : Int) * 2 ^ (min ((n : Int).toNat) IntKind.u64.bits) = ((2 ^ n : Nat) : Int) := by
    rw [Int.toNat_natCast, show min n IntKind.u64.bits = n from Nat.min_eq_left (by simp [IntKind.bits]; omega), Int.one_mul]
    simp
  have hp := pow63 hn
  simp only [W.bin, binEval]
  rw [if_neg (by omega), e, wrapU (by omega)]
  exact h

theorem Wi.subU {m : Nat} (h1 : 1 ≤ m) (hm : m < 9223372036854775808) (h : K (.int .u64 ((m - 1 : Nat) : Int)) H) : W.bin .sub (.int .u64 (m : Nat)) (.int .u64 1) H K := by
  simp only [W.bin, binEval, intEval, if_true]
  rw [show (m : Int) - 1 = ((m - 1 : Nat) : Int) by omega, wrapU (by omega)]
  exact h

theorem Wi.tab2 {s : ByteArray} {m : Nat} {κ : IntKind} (hs : ((List.range 64).all fun m => (match s[m]? with | some b => decide (b.toNat ≤ 6 ∧ m < 2 ^ b.toNat ∧ (m = 0 ∨ 2 ^ (b.toNat - 1) ≤ m)) | none => false)) = true) (hm : m < 64) (hK : ∀ b : Nat, b ≤ 6 ∧ m < 2 ^ b ∧ (m = 0 ∨ 2 ^ (b - 1) ≤ m) → K (.int .u8 (b : Nat)) H) :
    W.indexStr (.string s) (.int κ (m : Nat)) H K := by
  have h := List.all_eq_true.1 hs m (by simpa using hm)
  unfold W.indexStr
  refine ⟨by omega, ?_⟩
  rw [Int.toNat_natCast]
  cases e : s[m]? with
  | none => rw [e] at h; cases h
  | some b =>
    rw [e] at h
    exact hK _ (of_decide_eq_true h)

theorem Wi.convU9 {m : Nat} {κ : IntKind} (hm : m < 256) (h : K (.int .u8 (m : Nat)) H) : W.conv .u8 (.int κ (m : Nat)) H K := by
  have e : IntKind.u8.wrap (m : Int) = m := by
    simp only [IntKind.wrap, IntKind.signed, IntKind.bits]
    simp
    omega
  show K (.int .u8 (IntKind.u8.wrap (m : Int))) H
  rw [e]
  exact h

theorem fnQ53 {m : Nat} (hm : m < 64) (hQ : ∀ k : Nat, k ≤ 6 ∧ m < 2 ^ k ∧ (m = 0 ∨ 2 ^ (k - 1) ≤ m) → K (.int .i64 (k : Nat)) H) : Runs Tryz.prog 53 #[.int .u64 (m : Nat)] H K := by
  refine f53.enter (Wi.fls (Wi.call (f107.enter ?_)))
  unfold f107.w
  generalize h1 : (4294967296 : Int) = t1
  refine Wi.geqC (fun g => absurd g (by omega)) fun _ => Wi.fls ?_
  unfold f107.j1
  generalize h2 : (65536 : Int) = t2
  refine Wi.geqC (fun g => absurd g (by omega)) fun _ => Wi.fls ?_
  unfold f107.j2
  refine Wi.geqC (fun g => absurd g (by omega)) fun _ => Wi.fls ?_
  unfold f107.j3
  refine Wi.convU9 (by omega) ?_
  refine Wi.tab2 (by decide +kernel) hm fun b hb => Wi.convI (by unfold I64; omega) (Wi.add (by unfold I64; omega) ?_)
  rw [Int.zero_add]
  exact hQ b hb

end

section
variable {H0 H : Heap} {L : List (Atom H0.next)} {m n : Nat} {v : Value} {tbl : List (Value × List Frac)} {f : Nat → El m} {K Q : Post}

/-- A box beside the list. -/
theorem SSt.box {ty : TypeId} {cs : List Value} (h : SSt L m n v tbl f H) (k : ∀ H' b, SSt (.box b cs :: L) m n v tbl f H' → K (pt b 0) H') : W.new cs ty H K :=
  Wl.new h.1 fun H' b h1 => k H' b ⟨(h1.front 2 rfl).front 2 rfl, h.2⟩
theorem SSt.drop {a : Atom H0.next} (h : SSt (a :: L) m n v tbl f H) : SSt L m n v tbl f H := ⟨h.1.cut 2, h.2⟩

theorem fnQ149 {a b b2 : Nat} {s : Int} (h : SSt (.box b2 [.int .i64 s] :: L) m n v tbl f H) (ha : a < n) (hb : b < n) (hs : 0 ≤ s ∧ s ≤ 10)
    (hQ : ∀ H' (x y : Nat) (s' : Int), SSt (.box b2 [.int .i64 s'] :: L) m n v tbl f H' → (x = a ∧ y = b) ∨ (x = b ∧ y = a) → s ≤ s' ∧ s' ≤ s + 1 → Q (.tuple #[.int .i64 (x : Nat), .int .i64 (y : Nat)]) H') :
    Runs Tryz.prog 149 #[v, .int .i64 (a : Nat), .int .i64 (b : Nat), pt b2 0, cmpV] H Q := by
  refine f149.enter ?_
  unfold f149.w
  refine h.get (i := b) hb (h.get (i := a) ha (h.lss (i := b) (j := a) hb ha fun H h => ?_))
  cases ltE (f b) (f a) with
  | false => exact Wi.fls (hQ _ a b s h (.inl ⟨rfl, rfl⟩) ⟨by omega, by omega⟩)
  | true =>
    refine Wi.tru (Wi.nilP (Wl.get (b := b2) (o := 0) h.1 rfl (Wi.add (by unfold I64; omega) (Wi.nilP (Wl.put (b := b2) (o := 0) (i := 2) h.1 rfl (by simp) fun H h1 => ?_)))))
    exact hQ _ b a (s + 1) ⟨h1, h.2⟩ (.inr ⟨rfl, rfl⟩) ⟨by omega, by omega⟩

theorem fnQ144 {a b c b2 : Nat} {P : Nat → Prop} (h : SSt (.box b2 [.int .i64 0] :: L) m n v tbl f H) (ha : a < n) (hb : b < n) (hc : c < n) (pa : P a) (pb : P b) (pc : P c)
    (hQ : ∀ H' (x : Nat) (s' : Int), SSt (.box b2 [.int .i64 s'] :: L) m n v tbl f H' → P x → 0 ≤ s' ∧ s' ≤ 3 → Q (.int .i64 (x : Nat)) H') :
    Runs Tryz.prog 144 #[v, .int .i64 (a : Nat), .int .i64 (b : Nat), .int .i64 (c : Nat), pt b2 0, cmpV] H Q := by
  refine f144.enter ?_
  unfold f144.w
  refine Wi.call (fnQ149 h ha hb ⟨by omega, by omega⟩ fun H x y s1 h hxy hs1 => ?_)
  simp only [gw]
  have hx : x < n ∧ y < n ∧ P x ∧ P y := by
    rcases hxy with ⟨rfl, rfl⟩ | ⟨rfl, rfl⟩
    · exact ⟨ha, hb, pa, pb⟩
    · exact ⟨hb, ha, pb, pa⟩
  refine Wi.call (fnQ149 h hx.2.1 hc ⟨by omega, by omega⟩ fun H z w s2 h hzw hs2 => ?_)
  simp only [gw]
  have hz : z < n ∧ P z := by
    rcases hzw with ⟨rfl, rfl⟩ | ⟨rfl, rfl⟩
    · exact ⟨hx.2.1, hx.2.2.2⟩
    · exact ⟨hc, pc⟩
  refine Wi.call (fnQ149 h hx.1 hz.1 ⟨by omega, by omega⟩ fun H p q s3 h hpq hs3 => ?_)
  simp only [gw]
  have hq : P q := by
    rcases hpq with ⟨rfl, rfl⟩ | ⟨rfl, rfl⟩
    · exact hz.2
    · exact hx.2.2.1
  exact hQ _ q s3 h hq ⟨by omega, by omega⟩

theorem fnQ101 {a b : Nat} (h : SSt L m n v tbl f H) (hab : a + 8 ≤ b) (hl : b - a < 50) (hb : b ≤ n) (hn : n ≤ 1000) (hQ : ∀ H' (j : Nat) (hint : Int), SSt L m n v tbl f H' → a ≤ j → j < b → hint ≠ 2 → Q (.tuple #[.int .i64 (j : Nat), .int .i64 hint]) H') :
    Runs Tryz.prog 101 #[v, .int .i64 (a : Nat), .int .i64 (b : Nat), cmpV] H Q := by
  refine f101.enter ?_
  unfold f101.w
  refine Wi.sub (by unfold I64; omega) ?_
  rw [show (b : Int) - (a : Int) = ((b - a : Nat) : Int) by omega]
  obtain ⟨l, el⟩ : ∃ l, l = b - a := ⟨_, rfl⟩
  rw [← el]
  have e4 : (l : Int).tdiv 4 = ((l / 4 : Nat) : Int) := rfl
  have q : ∀ {K : Post} {H : Heap}, K (.int .i64 ((l / 4 : Nat) : Int)) H → W.bin .quo (.int .i64 (l : Nat)) (.int .i64 4) H K := fun hk => Wi.quo (by decide) (by rw [e4]; unfold I64; omega) (by rw [e4]; exact hk)
  refine h.box fun H b2 h => q (Wi.mul (by unfold I64; omega) (Wi.add (by unfold I64; omega) (q (Wi.mul (by unfold I64; omega) (Wi.add (by unfold I64; omega) (q (Wi.mul (by unfold I64; omega) (Wi.add (by unfold I64; omega) ?_))))))))
  rw [show (a : Int) + ((l / 4 : Nat) : Int) * 1 = ((a + l / 4 : Nat) : Int) by omega, show (a : Int) + ((l / 4 : Nat) : Int) * 2 = ((a + l / 4 * 2 : Nat) : Int) by omega, show (a : Int) + ((l / 4 : Nat) : Int) * 3 = ((a + l / 4 * 3 : Nat) : Int) by omega]
  refine Wi.geqC (fun _ => Wi.tru (Wi.geqC (fun g => absurd g (by omega)) fun _ => Wi.fls ?_)) fun g => absurd (by omega) g
  unfold f101.j1
  refine Wi.call (fnQ144 (P := fun x => a ≤ x ∧ x < b) h (by omega) (by omega) (by omega) ⟨by omega, by omega⟩ ⟨by omega, by omega⟩ ⟨by omega, by omega⟩ fun H x s h hx hs => ?_)
  unfold f101.j2
  refine Wl.get (b := b2) (o := 0) h.1 rfl (Wi.eqlC (fun _ => Wi.tru (hQ _ x 1 h.drop hx.1 hx.2 (by decide))) fun g => Wi.fls (Wi.eqlC (fun g => absurd g (by omega)) fun _ => Wi.fls (hQ _ x 0 h.drop hx.1 hx.2 (by decide))))

theorem fnQ103 {a b : Nat} (h : SSt L m n v tbl f H) (hab : a < b) (hl : b - a < 50) (hb : b ≤ n) (hn : n ≤ 1000) (hQ : ∀ H' t, SSt L m n v tbl f H' → (t = true → Srt ltE f a b) → Q (.bool t) H') :
    Runs Tryz.prog 103 #[v, .int .i64 (a : Nat), .int .i64 (b : Nat), cmpV] H Q := by
  have o := ltE_swo m
  refine f103.enter ?_
  unfold f103.w
  refine Wi.add (by unfold I64; omega) ?_
  rw [show (a : Int) + 1 = ((a + 1 : Nat) : Int) by omega]
  refine W.for_rule 1 (fun _ st H' => st = (.int .i64 ((a + 1 : Nat) : Int), .int .i64 0, ()) ∧ H' = H) ⟨rfl, rfl⟩ ?_
  rintro _ st H' J2 _ ⟨rfl, rfl⟩ _
  unfold f103.l1
  refine Wi.lssC (fun _ => Wi.tru ?_) fun g => absurd (by decide) g
  refine W.for_rule n (fun x st H => st = (.int .i64 ((a + 1 + x : Nat) : Int), ()) ∧ a + 1 + x ≤ b ∧ SSt L m n v tbl f H ∧ ∀ k, a < k → k < a + 1 + x → ltE (f k) (f (k - 1)) = false) ⟨rfl, by omega, h, fun k k1 k2 => by omega⟩ ?_
  rintro x st H J hx ⟨rfl, hxb, h, hno⟩ hJ
  unfold f103.l2
  refine Wi.lssC (fun hlt => ?_) fun hge => ?_
  · simp only [gw]
    refine h.get (i := a + 1 + x) (by omega) (Wi.sub (by unfold I64; omega) ?_)
    rw [show ((a + 1 + x : Nat) : Int) - 1 = ((a + x : Nat) : Int) by omega]
    refine h.get (i := a + x) (by omega) (h.lss (i := a + 1 + x) (j := a + x) (by omega) (by omega) fun H h => ?_)
    cases hl : ltE (f (a + 1 + x)) (f (a + x)) with
    | false =>
      simp only [gw]
      refine Wi.add (by unfold I64; omega) (hJ _ _ (by omega) ⟨rfl, by omega, h, fun k k1 k2 => ?_⟩)
      by_cases e : k = a + 1 + x
      · subst e
        rw [show a + 1 + x - 1 = a + x by omega]
        exact hl
      · exact hno k k1 (by omega)
    | true =>
      simp only [gw]
      refine Wi.eqlC (fun g => absurd g (by omega)) fun _ => Wi.fls (Wi.sub (by unfold I64; omega) (Wi.lssC (fun _ => Wi.tru (hQ _ false h fun g => by cases g)) fun g => absurd (by omega) g))
  · simp only [gw]
    have e : a + 1 + x = b := by omega
    exact Wi.eqlC (fun _ => Wi.tru (hQ _ true h fun _ => srt_near o fun i h1 h2 => hno i h1 (by omega))) fun g => absurd (by omega) g

theorem fnQ142 {b2 : Nat} {c : Int} (h : SSt (.box b2 [.int .u64 c] :: L) m n v tbl f H) (hQ : ∀ H' c', SSt (.box b2 [.int .u64 c'] :: L) m n v tbl f H' → Q (.int .u64 c') H') : Runs Tryz.prog 142 #[pt b2 0] H Q := by
  refine f142.enter ?_
  unfold f142.w
  refine Wi.nilP (Wl.get (b := b2) (o := 0) h.1 rfl (Wi.nilP (Wl.get (b := b2) (o := 0) h.1 rfl (Wi.shlU (by decide) fun c1 => Wi.xorU fun c2 => Wi.nilP (Wl.put (b := b2) (o := 0) (i := 2) h.1 rfl (by simp) fun H h1 => ?_)))))
  refine Wi.nilP (Wl.get (b := b2) (o := 0) h1 rfl (Wi.nilP (Wl.get (b := b2) (o := 0) h1 rfl (Wi.shrU (by decide) fun c3 => Wi.xorU fun c4 => Wi.nilP (Wl.put (b := b2) (o := 0) (i := 2) h1 rfl (by simp) fun H h1 => ?_)))))
  refine Wi.nilP (Wl.get (b := b2) (o := 0) h1 rfl (Wi.nilP (Wl.get (b := b2) (o := 0) h1 rfl (Wi.shlU (by decide) fun c5 => Wi.xorU fun c6 => Wi.nilP (Wl.put (b := b2) (o := 0) (i := 2) h1 rfl (by simp) fun H h1 => ?_)))))
  exact Wi.nilP (Wl.get (b := b2) (o := 0) h1 rfl (hQ _ c6 ⟨h1, h.2⟩))

theorem fnQ100 {a b : Nat} (h : SSt L m n v tbl f H) (hab : a + 8 ≤ b) (hl : b - a < 50) (hb : b ≤ n) (hn : n ≤ 1000) (hQ : ∀ H' g, SSt L m n v tbl g H' → Sw a b f g → Q (.tuple #[]) H') :
    Runs Tryz.prog 100 #[v, .int .i64 (a : Nat), .int .i64 (b : Nat), cmpV] H Q := by
  refine f100.enter ?_
  unfold f100.w
  refine Wi.sub (by unfold I64; omega) ?_
  rw [show (b : Int) - (a : Int) = ((b - a : Nat) : Int) by omega]
  obtain ⟨l, el⟩ : ∃ l, l = b - a := ⟨_, rfl⟩
  rw [← el]
  have e4 : (l : Int).tdiv 4 = ((l / 4 : Nat) : Int) := rfl
  have q : ∀ {K : Post} {H : Heap}, K (.int .i64 ((l / 4 : Nat) : Int)) H → W.bin .quo (.int .i64 (l : Nat)) (.int .i64 4) H K := fun hk => Wi.quo (by decide) (by rw [e4]; unfold I64; omega) (by rw [e4]; exact hk)
  refine Wi.geqC (fun _ => Wi.tru ?_) fun g => absurd (by omega) g
  refine Wi.convN (by omega) (h.box fun H b4 h => Wl.put (b := b4) (o := 0) (i := 2) h.1 rfl (by simp) fun H h1 => ?_)
  have h : SSt (.box b4 [.int .u64 (l : Nat)] :: L) m n v tbl f H := ⟨h1, h.2⟩
  refine Wi.call (f141.enter (Wi.convN (by omega) (Wi.call (fnQ53 (by omega) fun k hk => Wi.shl1U (by omega) ?_))))
  have hk2 : 2 ^ k ≤ 2 * l ∧ l < 2 ^ k ∧ 1 ≤ k := by
    obtain ⟨k1, k2, k3⟩ := hk
    have : k ≠ 0 := fun e => by subst e; omega
    obtain ⟨j, rfl⟩ : ∃ j, k = j + 1 := ⟨k - 1, by omega⟩
    rw [Nat.add_sub_cancel] at k3
    rw [Nat.pow_succ] at k2 ⊢
    omega
  have hp := pow63 (n := k) (by omega)
  obtain ⟨M, hM⟩ : ∃ M, M = 2 ^ k := ⟨_, rfl⟩
  rw [← hM] at hk2 hp ⊢
  refine q (Wi.mul (by unfold I64; omega) (Wi.add (by unfold I64; omega) (Wi.sub (by unfold I64; omega) ?_)))
  rw [show (a : Int) + ((l / 4 : Nat) : Int) * 2 - 1 = ((a + l / 4 * 2 - 1 : Nat) : Int) by omega]
  refine W.for_rule 3 (fun t st H => ∃ c g, st = (.int .i64 ((a + l / 4 * 2 - 1 + t : Nat) : Int), ()) ∧ SSt (.box b4 [.int .u64 c] :: L) m n v tbl g H ∧ Sw a b f g) ⟨_, f, rfl, h, .refl⟩ ?_
  rintro t st H J ht ⟨c, g, rfl, h, hs⟩ hJ
  unfold f100.l1
  refine q (Wi.mul (by unfold I64; omega) (Wi.add (by unfold I64; omega) (Wi.add (by unfold I64; omega) ?_)))
  refine Wi.leqC (fun hle => Wi.tru ?_) fun hgt => Wi.fls ?_
  · have go : ∀ (o : Nat) H c, o < l → SSt (.box b4 [.int .u64 c] :: L) m n v tbl g H → f100.j1 Q (.int .i64 (a : Nat)) v (.int .i64 ((a + l / 4 * 2 - 1 + t : Nat) : Int)) J (.int .i64 (o : Nat)) H := fun o H c ho h => by
      unfold f100.j1
      refine Wi.add (by unfold I64; omega) (Wi.add (by unfold I64; omega) ?_)
      rw [show (a : Int) + (o : Int) = ((a + o : Nat) : Int) by omega]
      refine h.get (i := a + o) (by omega) (h.get (i := a + l / 4 * 2 - 1 + t) (by omega) (h.set2 (i := a + l / 4 * 2 - 1 + t) (j := a + o) (by omega) (by omega) fun H h => Wi.add (by unfold I64; omega) (hJ _ _ (by omega) ⟨c, _, rfl, h, .step hs (by omega) (by omega) (by omega) (by omega)⟩)))
    refine Wi.call (fnQ142 h fun H c h => Wi.subU (by omega) hp (Wi.andU (m := M - 1) (by omega) fun d hd => Wi.convI (by unfold I64; omega) (Wi.geqC (fun hge => Wi.tru ?_) fun hlt => Wi.fls (go d _ _ (by omega) h))))
    refine Wi.sub (by unfold I64; omega) ?_
    rw [show (d : Int) - (l : Int) = ((d - l : Nat) : Int) by omega]
    exact go (d - l) _ _ (by omega) h
  · unfold f100.j2
    exact hQ _ g h.drop hs

/-! ### The whole -/

theorem rest_left {f g : Nat → El m} {a0 a b b0 mid : Nat} (hr : RestS ltE f a0 a b b0) (hp : PartO m f a b mid) (hs : Sw a mid f g) (ht : Srt ltE g a mid) (h1 : a0 ≤ a) (h2 : a ≤ mid) (h3 : mid < b) (h4 : b ≤ b0) : RestS ltE g a0 (mid + 1) b b0 := by
  have o := ltE_swo m
  have hr2 := hr.sw (hs.mono (Nat.le_refl _) (show mid ≤ b by omega)) h1 h4
  intro i j k1 k2 k3 k4
  by_cases c : a ≤ i ∧ j < b
  · have hi : i ≤ mid := by omega
    by_cases e1 : j < mid
    · exact ht i j c.1 k2 e1
    · rw [hs.out (k := j) (by omega)]
      by_cases e2 : i = mid
      · subst e2
        rw [hs.out (k := i) (by omega)]
        exact hp.2 j k2 c.2
      · refine hs.all (P := fun x => ltE (f j) x = false) (fun k q1 q2 => ?_) i c.1 (by omega)
        have hk := o.asym (hp.1 k q1 q2)
        by_cases e3 : j = mid
        · subst e3; exact hk
        · exact o.tr hk (hp.2 j (by omega) c.2)
  · exact hr2 i j k1 k2 k3 c

theorem rest_right {f g : Nat → El m} {a0 a b b0 mid : Nat} (hr : RestS ltE f a0 a b b0) (hp : PartO m f a b mid) (hs : Sw (mid + 1) b f g) (ht : Srt ltE g (mid + 1) b) (h1 : a0 ≤ a) (h2 : a ≤ mid) (h3 : mid < b) (h4 : b ≤ b0) : RestS ltE g a0 a mid b0 := by
  have o := ltE_swo m
  have hr2 := hr.sw (hs.mono (show a ≤ mid + 1 by omega) (Nat.le_refl _)) h1 h4
  intro i j k1 k2 k3 k4
  by_cases c : a ≤ i ∧ j < b
  · have hj : mid ≤ j := by omega
    by_cases e1 : mid < i
    · exact ht i j e1 k2 c.2
    · rw [hs.out (k := i) (by omega)]
      by_cases e2 : j = mid
      · subst e2
        rw [hs.out (k := j) (by omega)]
        exact o.asym (hp.1 i c.1 (by omega))
      · refine hs.all (P := fun x => ltE x (f i) = false) (fun k q1 q2 => ?_) j (by omega) c.2
        have hk := hp.2 k (by omega) q2
        by_cases e3 : i = mid
        · subst e3; exact hk
        · exact o.tr (o.asym (hp.1 i c.1 (by omega))) hk
  · exact hr2 i j k1 k2 k3 c

theorem rest_eq {f : Nat → El m} {a0 a b b0 mid : Nat} (hr : RestS ltE f a0 a b b0) (hp : PartE m f a b mid (mid - 1)) (hm : ∀ k, a ≤ k → k < b → ltE (f k) (f a) = false) (h2 : a < mid) : RestS ltE f a0 mid b b0 := by
  have o := ltE_swo m
  intro i j k1 k2 k3 k4
  by_cases c : a ≤ i ∧ j < b
  · have hi : i < mid := by omega
    have g1 : ltE (f a) (f i) = false := by
      by_cases e : i = a
      · subst e; exact o.irr _
      · exact hp.1 i (by omega) hi
    exact o.tr g1 (hm j (by omega) c.2)
  · exact hr i j k1 k2 k3 c

theorem fnQ52 (hn : n < 50) : ∀ (N : Nat) {a b : Nat} {lim : Int} {f : Nat → El m} {H : Heap} {Q : Post}, b - a ≤ N → SSt L m n v tbl f H → a ≤ b → b ≤ n → (0 < a → ∀ k, a ≤ k → k < b → ltE (f k) (f (a - 1)) = false) → (0 ≤ lim ∧ lim ≤ 100) →
    (∀ H' g, SSt L m n v tbl g H' → Sw a b f g → Srt ltE g a b → Q (.tuple #[]) H') → Runs Tryz.prog 52 #[v, .int .i64 (a : Nat), .int .i64 (b : Nat), .int .i64 lim, cmpV] H Q := by
  have o := ltE_swo m
  intro N
  induction N using Nat.strongRecOn with
  | ind N ih =>
  intro a0 b0 lim0 f H Q hN h hab0 hb0 hpre hlim hQ
  refine f52.enter ?_
  unfold f52.w
  refine W.for_rule (b0 - a0 + 1) (fun t st H => ∃ (a b : Nat) (lim : Int) (bal par : Bool) (g : Nat → El m), st = (.int .i64 (a : Nat), .int .i64 (b : Nat), .int .i64 lim, .bool bal, .bool par, ()) ∧ SSt L m n v tbl g H ∧ Sw a0 b0 f g ∧ a0 ≤ a ∧ a ≤ b ∧ b ≤ b0 ∧ (b - a) + t ≤ b0 - a0 ∧ RestS ltE g a0 a b b0 ∧ (0 < a → ∀ k, a ≤ k → k < b → ltE (g k) (g (a - 1)) = false) ∧ 0 ≤ lim ∧ lim ≤ 100) ⟨a0, b0, lim0, true, true, f, rfl, h, .refl, by omega, hab0, by omega, by omega, fun i j k1 k2 k3 k4 => absurd ⟨k1, k3⟩ k4, hpre, hlim⟩ ?_
  rintro t st H J ht ⟨a, b, lim, bal, par, g, rfl, h, hs, h1, h2, h3, h4, hr, hp, l1, l2⟩ hJ
  unfold f52.l1
  refine Wi.sub (by unfold I64; omega) ?_
  rw [show (b : Int) - (a : Int) = ((b - a : Nat) : Int) by omega]
  have fin : ∀ H g2, SSt L m n v tbl g2 H → Sw a b g g2 → Srt ltE g2 a b → Q (.tuple #[]) H := fun H g2 h hs2 hst => hQ _ g2 h (hs.trans (hs2.mono h1 h3)) ((hr.sw hs2 h1 h3).done hst)
  refine Wi.leqC (fun hle => Wi.tru (Wi.call (fnQ98 h (by omega) (by omega) (by omega) fin))) fun hgt => Wi.fls ?_
  have hlen : 12 < b - a := by omega
  refine Wi.eqlC (fun _ => Wi.tru (Wi.call (fnQ99 h (by omega) (by omega) (by omega) fin))) fun hl0 => Wi.fls ?_
  -- the rest of a round, from where the patterns may have been broken
  have rest : ∀ (lim : Int) (g : Nat → El m) H, 0 ≤ lim ∧ lim ≤ 100 → SSt L m n v tbl g H → Sw a0 b0 f g → RestS ltE g a0 a b b0 → (0 < a → ∀ k, a ≤ k → k < b → ltE (g k) (g (a - 1)) = false) →
      f52.j1 Q v (.int .i64 (a : Nat)) (.int .i64 (b : Nat)) cmpV (.bool bal) (.bool par) (.int .i64 ((b - a : Nat) : Int)) J (.int .i64 lim) H := fun lim g H hlim h hs hr hp => by
    unfold f52.j1
    refine Wi.call (fnQ101 h (by omega) (by omega) (by omega) (by omega) fun H pv hint h hp1 hp2 hh => ?_)
    simp only [gw]
    refine Wi.eqlC (fun e => absurd e hh) fun _ => Wi.fls ?_
    have j3 : ∀ H, SSt L m n v tbl g H → f52.j3 Q (.int .i64 (a : Nat)) cmpV v (.int .i64 (pv : Nat)) (.int .i64 (b : Nat)) (.int .i64 lim) (.bool bal) (.bool par) (.int .i64 ((b - a : Nat) : Int)) J H := fun H h => by
      unfold f52.j3
      -- the usual partition
      have part : ∀ H, SSt L m n v tbl g H → W.call Tryz.prog (.func (.func 105) #[] #[]) #[v, .int .i64 (a : Nat), .int .i64 (b : Nat), .int .i64 (pv : Nat), cmpV] H fun v39 H =>
          W.extract 0 v39 H fun v40 H => W.extract 1 v39 H fun v41 H => W.bin .sub v40 (.int .i64 (a : Nat)) H fun v42 H => W.bin .sub (.int .i64 (b : Nat)) v40 H fun v43 H => W.bin .quo (.int .i64 ((b - a : Nat) : Int)) (.int .i64 8) H fun v44 H => W.bin .lss v42 v43 H fun v45 H => W.cond v45 H
            (fun H => W.bin .geq v42 v44 H fun v46 H => W.call Tryz.prog (.func (.func 52) #[] #[]) #[v, .int .i64 (a : Nat), v40, .int .i64 lim, cmpV] H fun _ H => W.bin .add v40 (.int .i64 1) H fun v48 H => f52.j5 Q (.int .i64 lim) v41 J v48 (.int .i64 (b : Nat)) v46 H)
            (fun H => W.bin .geq v43 v44 H fun v49 H => W.bin .add v40 (.int .i64 1) H fun v50 H => W.call Tryz.prog (.func (.func 52) #[] #[]) #[v, v50, .int .i64 (b : Nat), .int .i64 lim, cmpV] H fun _ H => f52.j5 Q (.int .i64 lim) v41 J (.int .i64 (a : Nat)) v40 v49 H) := fun H h => by
        refine Wi.call (fnQ105 h (by omega) (by omega) (by omega) hp1 hp2 fun H g2 mid t2 h hm1 hm2 hs2 hpo => ?_)
        have hr2 := hr.sw hs2 h1 h3
        have hs2' := hs.trans (hs2.mono h1 h3)
        have hp2' : 0 < a → ∀ k, a ≤ k → k < b → ltE (g2 k) (g2 (a - 1)) = false := fun ha => by
          rw [hs2.out (k := a - 1) (by omega)]
          exact hs2.all (P := fun x => ltE x (g (a - 1)) = false) (hp ha)
        have e8 : ((b - a : Nat) : Int).tdiv 8 = (((b - a) / 8 : Nat) : Int) := rfl
        simp only [gw]
        refine Wi.sub (by unfold I64; omega) (Wi.sub (by unfold I64; omega) (Wi.quo (by decide) (by rw [e8]; unfold I64; omega) (Wi.lssC (fun _ => Wi.tru ?_) fun _ => Wi.fls ?_)))
        · refine Wi.geq (Wi.call (ih (mid - a) (by omega) (Nat.le_refl _) h hm1 (by omega) (fun ha k k1 k2 => hp2' ha k k1 (by omega)) hlim fun H g3 h hs3 hst => Wi.add (by unfold I64; omega) ?_))
          unfold f52.j5 f52.j4
          refine hJ _ _ (by omega) ⟨mid + 1, b, lim, _, t2, g3, rfl, h, hs2'.trans (hs3.mono h1 (by omega)), by omega, by omega, h3, by omega, rest_left hr2 hpo hs3 hst h1 hm1 hm2 h3, fun _ k k1 k2 => ?_, hlim.1, hlim.2⟩
          rw [Nat.add_sub_cancel, hs3.out (k := k) (by omega), hs3.out (k := mid) (by omega)]
          exact hpo.2 k (by omega) k2
        · refine Wi.geq (Wi.add (by unfold I64; omega) ?_)
          rw [show (mid : Int) + 1 = ((mid + 1 : Nat) : Int) by omega]
          refine Wi.call (ih (b - (mid + 1)) (by omega) (Nat.le_refl _) h (by omega) (by omega) (fun _ k k1 k2 => by rw [Nat.add_sub_cancel]; exact hpo.2 k (by omega) k2) hlim fun H g3 h hs3 hst => ?_)
          unfold f52.j5 f52.j4
          refine hJ _ _ (by omega) ⟨a, mid, lim, _, t2, g3, rfl, h, hs2'.trans (hs3.mono (by omega) h3), h1, hm1, by omega, by omega, rest_right hr2 hpo hs3 hst h1 hm1 hm2 h3, fun ha k k1 k2 => ?_, hlim.1, hlim.2⟩
          rw [hs3.out (k := k) (by omega), hs3.out (k := a - 1) (by omega)]
          exact hp2' ha k k1 (by omega)
      refine Wi.gtrC (fun ha => ?_) fun ha => ?_
      rotate_left
      · simp only [gw]
        exact part _ h
      have ha : 0 < a := by omega
      simp only [gw]
      refine Wi.sub (by unfold I64; omega) ?_
      rw [show (a : Int) - 1 = ((a - 1 : Nat) : Int) by omega]
      refine h.get (i := a - 1) (by omega) (h.get (i := pv) (by omega) (h.lss (i := a - 1) (j := pv) (by omega) (by omega) fun H h => ?_))
      cases hl : ltE (g (a - 1)) (g pv) with
      | true =>
        simp only [gw]
        exact part _ h
      | false =>
        simp only [gw]
        refine Wi.call (fnQ104 h (by omega) (by omega) (by omega) hp1 hp2 fun H g2 mid h hm1 hm2 hs2 hga hpe => ?_)
        have hm : ∀ k, a ≤ k → k < b → ltE (g2 k) (g2 a) = false := by
          rw [hga]
          exact hs2.all (P := fun x => ltE x (g pv) = false) fun k k1 k2 => o.tr hl (hp ha k k1 k2)
        have hr2 := rest_eq (hr.sw hs2 h1 h3) hpe hm hm1
        unfold f52.j4
        refine hJ _ _ (by omega) ⟨mid, b, lim, bal, par, g2, rfl, h, hs.trans (hs2.mono h1 h3), by omega, hm2, h3, by omega, hr2, fun _ k k1 k2 => hr2 (mid - 1) k (by omega) (by omega) (by omega) (by omega), hlim.1, hlim.2⟩
    unfold f52.j2
    have pi : ∀ H, SSt L m n v tbl g H → W.call Tryz.prog (.func (.func 103) #[] #[]) #[v, .int .i64 (a : Nat), .int .i64 (b : Nat), cmpV] H fun v22 H => W.cond v22 H (fun H => Q (.tuple #[]) H) fun H => f52.j3 Q (.int .i64 (a : Nat)) cmpV v (.int .i64 (pv : Nat)) (.int .i64 (b : Nat)) (.int .i64 lim) (.bool bal) (.bool par) (.int .i64 ((b - a : Nat) : Int)) J H := fun H h => by
      refine Wi.call (fnQ103 h (by omega) (by omega) (by omega) (by omega) fun H t h ht => ?_)
      cases t with
      | true => exact Wi.tru (hQ _ g h hs (hr.done (ht rfl)))
      | false => exact Wi.fls (j3 _ h)
    cases bal with
    | false =>
      simp only [gw]
      exact j3 _ h
    | true =>
      cases par with
      | false =>
        simp only [gw]
        exact j3 _ h
      | true =>
        simp only [gw]
        refine Wi.eqlC (fun _ => ?_) fun _ => ?_
        · simp only [gw]
          exact pi _ h
        · simp only [gw]
          exact j3 _ h
  refine Wi.not ?_
  cases bal with
  | true => exact Wi.fls (rest lim g H ⟨l1, l2⟩ h hs hr hp)
  | false =>
    refine Wi.tru (Wi.call (fnQ100 h (by omega) (by omega) (by omega) (by omega) fun H g2 h hs2 => Wi.sub (by unfold I64; omega) (rest (lim - 1) g2 H ⟨by omega, by omega⟩ h (hs.trans (hs2.mono h1 h3)) (hr.sw hs2 h1 h3) fun ha => ?_)))
    rw [hs2.out (k := a - 1) (by omega)]
    exact hs2.all (P := fun x => ltE x (g (a - 1)) = false) (hp ha)

theorem fnQ23 (h : SSt L m n v tbl f H) (hn : n < 50) (hQ : ∀ H' g, SSt L m n v tbl g H' → Sw 0 n f g → Srt ltE g 0 n → Q (.tuple #[]) H') : Runs Tryz.prog 23 #[v, cmpV] H Q := by
  refine f23.enter ?_
  unfold f23.w
  refine Wl.lenH (h.1.rd (cs := [v]) (r := Rd.slice Rd.raw)) ?_
  rw [List.length_map, List.length_range]
  refine Wi.convN (by omega) (Wi.call (fnQ53 (by omega) fun k hk => Wi.call (fnQ52 (a := 0) (b := n) hn n (by omega) h (by omega) (Nat.le_refl _) (fun g => absurd g (by omega)) (by omega) fun H g h hs hr => hQ _ g h hs hr)))

end
end Go.Proofs.YtdmgomeogedjgaaGreat
