/- The contract of slices.Repeat for a list of one number. No condition. -/
import Derived.Test.YtbcfknboheghkaaA1
import Derived.Test.YtbcfknboheghkaaZabG8
import Derived.Test.YtbcfknboheghkaaZabG5
namespace Go.Proofs.Ytbcfknboheghkaa
open Go.Ab

/- math/bits.Mul -/
def f59.w (Q : Post) (x_0 : Value) (y_1 : Value) (H : Heap) : Prop :=
  W.cond (.bool false) H
  (fun H => W.conv .u32 x_0 H fun v1 H =>
   W.conv .u32 y_1 H fun v2 H =>
   W.call Try.prog (.func (.func 65) #[] #[]) #[v1, v2] H fun v3 H =>
   W.extract 0 v3 H fun v4 H =>
   W.extract 1 v3 H fun v5 H =>
   W.conv .u64 v4 H fun v6 H =>
   W.conv .u64 v5 H fun v7 H =>
   Q (.tuple #[v6, v7]) H)
  (fun H => W.call Try.prog (.func (.func 66) #[] #[]) #[x_0, y_1] H fun v8 H =>
   W.extract 0 v8 H fun v9 H =>
   W.extract 1 v8 H fun v10 H =>
   Q (.tuple #[v9, v10]) H)
theorem f59.enter {Q : Post} {x_0 : Value} {y_1 : Value} {H : Heap} (h : f59.w Q x_0 y_1 H) : Runs Try.prog 59 #[x_0, y_1] H Q :=
  fn_enter (ann := []) (by kernel_rfl) Try.func59 rfl (by kernel_rfl) h (by kernel_rfl)

/- math/bits.Mul64 -/
def f66.w (Q : Post) (x_0 : Value) (y_1 : Value) (H : Heap) : Prop :=
  W.bin .and x_0 (.int .u64 4294967295) H fun v1 H =>
  W.bin .shr x_0 (.int .u64 32) H fun v2 H =>
  W.bin .and y_1 (.int .u64 4294967295) H fun v3 H =>
  W.bin .shr y_1 (.int .u64 32) H fun v4 H =>
  W.bin .mul v1 v3 H fun v5 H =>
  W.bin .mul v2 v3 H fun v6 H =>
  W.bin .shr v5 (.int .u64 32) H fun v7 H =>
  W.bin .add v6 v7 H fun v8 H =>
  W.bin .and v8 (.int .u64 4294967295) H fun v9 H =>
  W.bin .shr v8 (.int .u64 32) H fun v10 H =>
  W.bin .mul v1 v4 H fun v11 H =>
  W.bin .add v9 v11 H fun v12 H =>
  W.bin .mul v2 v4 H fun v13 H =>
  W.bin .add v13 v10 H fun v14 H =>
  W.bin .shr v12 (.int .u64 32) H fun v15 H =>
  W.bin .add v14 v15 H fun v16 H =>
  W.bin .mul x_0 y_1 H fun v17 H =>
  Q (.tuple #[v16, v17]) H
theorem f66.enter {Q : Post} {x_0 : Value} {y_1 : Value} {H : Heap} (h : f66.w Q x_0 y_1 H) : Runs Try.prog 66 #[x_0, y_1] H Q :=
  fn_enter (ann := []) (by kernel_rfl) Try.func66 rfl (by kernel_rfl) h (by kernel_rfl)

/- slices.Repeat[[]int64,int64] -/
def f43.l1 (Q : Post) (v13 : Value) (I1 : St [8] → Heap → Prop) (n_8 : Value) (H : Heap) : Prop :=
  W.len v13 H fun v15 H =>
  W.bin .lss n_8 v15 H fun v16 H =>
  W.cond v16 H
  (fun H => W.slice 1 v13 (some n_8) none H fun v17 H =>
   W.slice 1 v13 none (some n_8) H fun v18 H =>
   W.copy 1 v17 v18 H fun v19 H =>
   W.bin .add n_8 v19 H fun v20 H =>
   I1 (v20, ()) H)
  (fun H => Q v13 H)
def f43.w (Q : Post) (x_0 : Value) (count_1 : Value) (H : Heap) : Prop :=
  W.bin .lss count_1 (.int .i64 0) H fun v1 H =>
  W.cond v1 H
  (fun H => W.no H)
  (fun H => W.len x_0 H fun v2 H =>
   W.conv .u64 v2 H fun v3 H =>
   W.conv .u64 count_1 H fun v4 H =>
   W.call Try.prog (.func (.func 59) #[] #[]) #[v3, v4] H fun v5 H =>
   W.extract 0 v5 H fun v6 H =>
   W.extract 1 v5 H fun v7 H =>
   W.bin .gtr v6 (.int .u64 0) H fun v8 H =>
   W.guarded v8 false (fun H k => k v7 H) H fun v9 H =>
   W.guarded v8 false (fun H k => W.bin .gtr v9 (.int .u64 9223372036854775807) H k) H fun v10 H =>
   W.pick v8 (.bool true) v10 H fun v11 H =>
   W.cond v11 H
   (fun H => W.no H)
   (fun H => W.conv .i64 v7 H fun v12 H =>
    W.make [(.int .i64 0)] 2 v12 v12 H fun v13 H =>
    W.copy 1 v13 x_0 H fun v14 H =>
    W.loop (S := St [8]) (fun I1 s H => f43.l1 Q v13 I1 s.1 H) (v14, ()) H))
theorem f43.enter {Q : Post} {x_0 : Value} {count_1 : Value} {H : Heap} (h : f43.w Q x_0 count_1 H) : Runs Try.prog 43 #[x_0, count_1] H Q :=
  fn_enter (ann := [(8, [8])]) (by kernel_rfl) Try.func43 rfl (by kernel_rfl) h (by kernel_rfl)


section
variable {H : Heap} {k : Post}
theorem u64w {n : Nat} (h : n < 18446744073709551616) : IntKind.u64.wrap (n : Int) = n := by
  simp only [IntKind.wrap, IntKind.signed, IntKind.bits]
  simp
  omega

theorem Wi.u64and {a : Nat} (ha : a < 4294967296) (h : k (.int .u64 (a : Nat)) H) : W.bin .and (.int .u64 (a : Nat)) (.int .u64 4294967295) H k := by
  have e : ((BitVec.ofInt IntKind.u64.bits (a : Int) &&& BitVec.ofInt IntKind.u64.bits 4294967295).toNat : Int) = ((a : Nat) : Int) := by
    congr 1
    have h1 : (BitVec.ofInt 64 (4294967295 : Int)).toNat = 2 ^ 32 - 1 := by decide
    have h2 : (BitVec.ofInt 64 (a : Int)).toNat = a % 2 ^ 64 := by
      rw [BitVec.ofInt_natCast, BitVec.toNat_ofNat]
    show (BitVec.ofInt 64 (a : Int) &&& BitVec.ofInt 64 (4294967295 : Int)).toNat = a
    rw [BitVec.toNat_and, h1, h2, Nat.and_two_pow_sub_one_eq_mod]
    omega
  simp only [W.bin, binEval, intEval, if_true]
  rw [e, u64w (by omega)]
  exact h

theorem Wi.u64shr {a : Nat} (ha : a < 4294967296) (h : k (.int .u64 ((0 : Nat) : Int)) H) : W.bin .shr (.int .u64 (a : Nat)) (.int .u64 32) H k := by
  have e : ((a : Int).fdiv (2 ^ (min ((32 : Int).toNat) IntKind.u64.bits))) = ((0 : Nat) : Int) := by
    have : min ((32 : Int).toNat) IntKind.u64.bits = 32 := by decide
    rw [this, Int.fdiv_eq_ediv_of_nonneg _ (by decide)]
    omega
  simp only [W.bin, binEval]
  rw [if_neg (by omega), e]
  exact h

theorem Wi.u64mul {a b : Nat} (hab : a * b < 18446744073709551616) (h : k (.int .u64 ((a * b : Nat) : Int)) H) : W.bin .mul (.int .u64 (a : Nat)) (.int .u64 (b : Nat)) H k := by
  simp only [W.bin, binEval, intEval, if_true]
  rw [show (a : Int) * (b : Int) = ((a * b : Nat) : Int) by simp, u64w hab]
  exact h

theorem Wi.u64add {a b : Nat} (hab : a + b < 18446744073709551616) (h : k (.int .u64 ((a + b : Nat) : Int)) H) : W.bin .add (.int .u64 (a : Nat)) (.int .u64 (b : Nat)) H k := by
  simp only [W.bin, binEval, intEval, if_true]
  rw [show (a : Int) + (b : Int) = ((a + b : Nat) : Int) by simp, u64w hab]
  exact h

theorem Wi.toI64 {n : Nat} (hn : n < 9223372036854775808) (h : k (.int .i64 (n : Nat)) H) : W.conv .i64 (.int .u64 (n : Nat)) H k := by
  show k (.int .i64 (IntKind.i64.wrap n)) H
  rw [wrap_id (by unfold I64; omega)]
  exact h
end

theorem fn66 {H0 : Heap} {Q : Post} {a b : Nat} (ha : a < 4294967296) (hb : b < 4294967296) (hab : a * b < 4294967296) (hQ : Q (.tuple #[.int .u64 0, .int .u64 ((a * b : Nat) : Int)]) H0) : Runs Try.prog 66 #[.int .u64 (a : Nat), .int .u64 (b : Nat)] H0 Q := by
  refine f66.enter ?_
  unfold f66.w
  refine Wi.u64and ha (Wi.u64shr ha (Wi.u64and hb (Wi.u64shr hb (Wi.u64mul (by omega) (Wi.u64mul (by omega) (Wi.u64shr hab (Wi.u64add (by omega) (Wi.u64and (by omega) (Wi.u64shr (by omega) (Wi.u64mul (by omega) (Wi.u64add (by omega) (Wi.u64mul (by omega) (Wi.u64add (by omega) (Wi.u64shr (by omega) (Wi.u64add (by omega) (Wi.u64mul (by omega) ?_))))))))))))))))
  exact hQ

theorem fn59 {H0 : Heap} {Q : Post} {a b : Nat} (ha : a < 4294967296) (hb : b < 4294967296) (hab : a * b < 4294967296) (hQ : Q (.tuple #[.int .u64 0, .int .u64 ((a * b : Nat) : Int)]) H0) : Runs Try.prog 59 #[.int .u64 (a : Nat), .int .u64 (b : Nat)] H0 Q := by
  refine f59.enter ?_
  unfold f59.w
  refine Wi.fls (Wi.call (fn66 ha hb hab ?_))
  simp only [gw]
  exact hQ

theorem rep_first {c : Int} {n : Nat} (h : 0 < n) : (List.replicate n (0 : Int)).take 0 ++ [c].take 1 ++ (List.replicate n (0 : Int)).drop (0 + 1) = List.replicate 1 c ++ List.replicate (n - 1) 0 := by
  simp

theorem rep_step {c : Int} {n m k : Nat} (hm : m < n) (hk : k = min m (n - m)) : (List.replicate m c ++ List.replicate (n - m) (0 : Int)).take m ++ ((List.replicate m c ++ List.replicate (n - m) (0 : Int)).take m).take k ++ (List.replicate m c ++ List.replicate (n - m) (0 : Int)).drop (m + k) = List.replicate (m + k) c ++ List.replicate (n - (m + k)) 0 := by
  have h1 : (List.replicate m c ++ List.replicate (n - m) (0 : Int)).take m = List.replicate m c := List.take_left' (by simp)
  rw [h1]
  apply List.ext_getElem
  · simp; omega
  · intro i h2 h3
    simp only [List.getElem_append, List.getElem_take, List.getElem_drop, List.length_append, List.length_take, List.length_replicate, List.getElem_replicate]
    split <;> split <;> (try split) <;> first | rfl | omega

theorem fn43 {H0 : Heap} {Q : Post} {v : Value} {c : Int} {n : Nat} (hr : Has RS H0 [v] [c]) (hn0 : 0 < n) (hn : n ≤ 1048576) (hQ : ∀ H' u, FreshG Rd.int 2 H0 u (List.replicate n c) H' → Q u H') : Runs Try.prog 43 #[v, .int .i64 (n : Nat)] H0 Q := by
  have h := (Loc.start H0).lent hr
  refine f43.enter (Wi.lssC (fun hlt => by omega) fun _ => Wi.fls (Wl.len h (Wi.convN (by simp) (Wi.convN (by omega) (Wi.call (fn59 (by simp) (by omega) (by simp; omega) ?_))))))
  simp only [gw]
  refine Wi.gtrC (fun g => by omega) fun _ => ?_
  simp only [gw]
  rw [show [c].length * n = n by simp]
  refine Wi.gtrC (fun g => by omega) fun _ => ?_
  simp only [gw]
  refine Wi.toI64 (by omega) (Wl.make (r := Rd.int) (z := 0) (m := n) (fun _ => ⟨rfl, rfl, by unfold I64; omega⟩) h (by omega) (by decide) fun H u h => ?_)
  refine Wl.copyIn (k := 1) h (by simp; omega) (by omega) (h.rd (cs := [v])) fun H h => ?_
  rw [rep_first hn0] at h
  refine W.loop_rule (fun s H => ∃ m : Nat, s = (.int .i64 (m : Nat), ()) ∧ 1 ≤ m ∧ m ≤ n ∧ Ab.Loc H0 [.grow Rd.int 2 u (List.replicate m c ++ List.replicate (n - m) 0), .lent RS [v] [c]] H) (fun s _ => match s.1 with | .int _ d => n - d.toNat | _ => 0) ⟨1, rfl, Nat.le_refl _, hn0, h⟩ ?_
  rintro s H ⟨m, rfl, hm1, hmn, h⟩
  refine Wl.len h ?_
  rw [show (List.replicate m c ++ List.replicate (n - m) (0 : Int)).length = n by simp; omega]
  refine Wi.lssC (fun hlt => Wi.tru ?_) fun hge => Wi.fls ?_
  · have hmn2 : m < n := by omega
    refine copySelf_ok (n := m) (k := min m (n - m)) h (by omega) (by simp; omega) (by simp) fun H h => ?_
    rw [rep_step hmn2 rfl] at h
    refine Wi.add (by unfold I64; omega) ⟨⟨m + min m (n - m), by rw [Int.natCast_add]; rfl, by omega, by omega, h⟩, ?_⟩
    show n - ((m : Int) + ((min m (n - m) : Nat) : Int)).toNat < n - ((m : Nat) : Int).toNat
    omega
  · have : m = n := by omega
    subst this
    rw [Nat.sub_self, List.replicate_zero, List.append_nil] at h
    exact hQ _ _ (h.retGG (i := 0) rfl)

end Go.Proofs.Ytbcfknboheghkaa
