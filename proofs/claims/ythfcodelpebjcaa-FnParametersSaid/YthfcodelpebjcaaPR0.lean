/- Contracts of PointOf, CompareFracs, fracs9; what the law FnParameters needs of ways. No condition. -/
import Derived.Test.YthfcodelpebjcaaGFP
import Derived.Test.YthfcodelpebjcaaQ1
import Derived.Test.YthfcodelpebjcaaCF
namespace Go.Proofs.Ythfcodelpebjcaa
open Go.Ab

/- loop.example/g01343/impl.PointOf -/
def f30.w (Q : Post) (p_0 : Value) (s_1 : Value) (H : Heap) : Prop :=
  W.box p_0 27 H fun v1 H =>
  W.getN 2 v1 H fun v2 H =>
  W.call Try.prog (.func (.func 66) #[] #[]) #[v2, s_1] H fun v3 H =>
  W.bin .neq v3 (.int .i64 0) H fun v4 H =>
  W.cond v4 H
  (fun H => Q (.tuple #[(.slice none 0 0), v3]) H)
  (fun H => W.getN 2 v1 H fun v5 H =>
   W.fieldAddr 1 v1 H fun v6 H =>
   W.get v6 H fun v7 H =>
   W.call Try.prog (.func (.func 57) #[] #[]) #[v5, s_1, v7] H fun v8 H =>
   W.extract 0 v8 H fun v9 H =>
   W.extract 1 v8 H fun v10 H =>
   W.extract 2 v8 H fun v11 H =>
   W.un .not v11 H fun v12 H =>
   W.cond v12 H
   (fun H => Q (.tuple #[(.slice none 0 0), (.int .i64 5)]) H)
   (fun H => W.call Try.prog (.func (.func 58) #[] #[]) #[v9, v10] H fun v13 H =>
    W.extract 0 v13 H fun v14 H =>
    W.extract 1 v13 H fun v15 H =>
    Q (.tuple #[v14, v15]) H))
theorem f30.enter {Q : Post} {p_0 : Value} {s_1 : Value} {H : Heap} (h : f30.w Q p_0 s_1 H) : Runs Try.prog 30 #[p_0, s_1] H Q :=
  fn_enter (ann := []) (by kernel_rfl) Try.func30 rfl (by kernel_rfl) h (by kernel_rfl)

/- loop.example/g01343/impl.CompareFracs -/
def f31.w (Q : Post) (a_0 : Value) (b_1 : Value) (H : Heap) : Prop :=
  W.box a_0 50 H fun v1 H =>
  W.box b_1 50 H fun v2 H =>
  W.getN 2 v1 H fun v3 H =>
  W.getN 2 v2 H fun v4 H =>
  W.lit 2 [(.int .i64 0), (.int .i64 0)] 50 [(0, 2, v3), (2, 2, v4)] H fun v5 H =>
  W.call Try.prog (.func (.func 67) #[] #[]) #[v5] H fun v6 H =>
  W.un .not v6 H fun v7 H =>
  W.cond v7 H
  (fun H => Q (.tuple #[(.int .i64 0), (.int .i64 1)]) H)
  (fun H => W.getN 2 v1 H fun v8 H =>
   W.getN 2 v2 H fun v9 H =>
   W.call Try.prog (.func (.func 64) #[] #[]) #[v8, v9] H fun v10 H =>
   Q (.tuple #[v10, (.int .i64 0)]) H)
theorem f31.enter {Q : Post} {a_0 : Value} {b_1 : Value} {H : Heap} (h : f31.w Q a_0 b_1 H) : Runs Try.prog 31 #[a_0, b_1] H Q :=
  fn_enter (ann := []) (by kernel_rfl) Try.func31 rfl (by kernel_rfl) h (by kernel_rfl)

/- loop.example/g01343/laws.fracs9 -/
def f23.l1 (Q : Post) (a_0 : Value) (b_1 : Value) (I1 : St [5] → Heap → Prop) (i_5 : Value) (H : Heap) : Prop :=
  W.len a_0 H fun v4 H =>
  W.bin .lss i_5 v4 H fun v5 H =>
  W.cond v5 H
  (fun H => W.indexAddr 2 a_0 i_5 H fun v6 H =>
   W.getN 2 v6 H fun v7 H =>
   W.indexAddr 2 b_1 i_5 H fun v8 H =>
   W.getN 2 v8 H fun v9 H =>
   W.eqPair .neq v7 v9 H fun v10 H =>
   W.cond v10 H
   (fun H => Q (.bool false) H)
   (fun H => W.bin .add i_5 (.int .i64 1) H fun v11 H =>
    I1 (v11, ()) H))
  (fun H => Q (.bool true) H)
def f23.w (Q : Post) (a_0 : Value) (b_1 : Value) (H : Heap) : Prop :=
  W.len a_0 H fun v1 H =>
  W.len b_1 H fun v2 H =>
  W.bin .neq v1 v2 H fun v3 H =>
  W.cond v3 H
  (fun H => Q (.bool false) H)
  (fun H => W.loop (S := St [5]) (fun I1 s H => f23.l1 Q a_0 b_1 I1 s.1 H) ((.int .i64 0), ()) H)
theorem f23.enter {Q : Post} {a_0 : Value} {b_1 : Value} {H : Heap} (h : f23.w Q a_0 b_1 H) : Runs Try.prog 23 #[a_0, b_1] H Q :=
  fn_enter (ann := [(4, [5])]) (by kernel_rfl) Try.func23 rfl (by kernel_rfl) h (by kernel_rfl)


/-! ### Contracts -/

def poRes (p : Prob) (s : Int) : List Frac × Int :=
  if setC p s = 0 then (if det p.2.length (mAt (colL p.2.length p.1 s.toNat)) = 0 then ([], 5) else tolF ((solveL p.2.length (colL p.2.length p.1 s.toNat) p.2).map fun x => frac x (det p.2.length (mAt (colL p.2.length p.1 s.toNat))))) else ([], setC p s)

theorem fn30 {H0 : Heap} {Q : Post} {cs : List Value} {p : Prob} {s : Int} (hr : Has RProblem H0 cs p) (hQ : ∀ H' u, Fresh RFS H0 [u] (poRes p s).1 H' → Q (.tuple #[u, .int .i64 (poRes p s).2]) H') : Runs Try.prog 30 #[.agg cs.toArray, .int .i64 s] H0 Q := by
  obtain ⟨u1, u2, rfl, r1, r2⟩ := hasProb hr
  have hz : ∀ H c, H0.Le H → poRes p s = ([], c) → Q (.tuple #[.slice none 0 0, .int .i64 c]) H := fun H c l e => by
    have := hQ H (.slice none 0 0) (by rw [e]; exact fresh_nil l)
    rw [e] at this
    exact this
  refine f30.enter ?_
  unfold f30.w
  have h := ((Loc.start H0).lent r2).lent hr
  refine Wl.box h fun H b h => Wl.getA h rfl (Wi.call (fn66 (h.rd (cs := [u1, u2])) fun H l => ?_))
  have h := h.to l
  refine Wi.neqC (fun hne => Wi.tru (hz _ _ h.le (by unfold poRes; rw [if_neg hne]))) fun he => Wi.fls ?_
  have e0 : isProb p = true ∧ setOk p.2.length s = true := by
    unfold setC at he
    by_cases g : isProb p = true
    · rw [if_pos g] at he
      by_cases g2 : setOk p.2.length s = true
      · exact ⟨g, g2⟩
      · rw [if_neg g2] at he; cases he
    · rw [if_neg g] at he; cases he
  obtain ⟨hp, hs⟩ := e0
  obtain ⟨s, rfl, hs0⟩ : ∃ k : Nat, s = (k : Int) ∧ k < 2 ^ p.2.length := ⟨s.toNat, setOk_nat hs⟩
  have hpb := PB.of hp
  have hn := hpb.n5
  have h32 := pow5 hn
  refine Wl.getA h rfl (Wi.fieldAddr (Wl.get h rfl (Wi.call (fn57 (h.rd (cs := [u1, u2])) hpb (by omega) (h.rd (cs := [u2])) hpb.ql hpb.q (fun hD H l => ?_) fun hD H u f => ?_))))
  · simp only [gw]
    exact hz _ _ (h.to l).le (by unfold poRes; rw [if_pos he, Int.toNat_natCast, if_pos hD])
  · simp only [gw]
    have h := h.add f
    have hcr := colL_rows (m := p.1) s hn fun r c _ _ => hpb.m r c
    have hd := det200 hn hcr
    have hsl := solve_leib s hn hpb.m hpb.q
    refine Wi.call (fn58 (h.rd (cs := [u])) (fun x hx => ?_) (by unfold B64; omega) (by omega) (by simp [pointL, solveL]; omega) fun H w f => ?_)
    · obtain ⟨y, hy, rfl⟩ := List.mem_map.1 hx
      have := hsl y hy
      have := mulA (sgI_abs (det p.2.length (mAt (colL p.2.length p.1 s)))) this
      unfold B64
      omega
    · have e : frAll (pointL p.2.length (colL p.2.length p.1 s) p.2) ((det p.2.length (mAt (colL p.2.length p.1 s))).natAbs : Nat) = poRes p (s : Nat) := by
        unfold poRes
        rw [if_pos he, Int.toNat_natCast, if_neg hD]
        refine frAll_tol ?_
        unfold pointL
        rw [List.map_map]
        refine List.map_congr_left fun x _ => ?_
        simp only [Function.comp]
        exact frac_scale hD
      rw [e] at f ⊢
      exact hQ _ _ ((h.add f).ret (i := 0) rfl)

theorem Wl.litFr2 {H0 H : Heap} {L : List (Atom H0.next)} {K : Post} {a b : Frac} {ty : TypeId} (ha : I64 a.1 ∧ I64 a.2) (hb : I64 b.1 ∧ I64 b.2) (h : Ab.Loc H0 L H) (k : ∀ H' v, Ab.Loc H0 (.data RFS [v] [a, b] :: L) H' → K v H') :
    W.lit 2 [.int .i64 0, .int .i64 0] ty [(0, 2, .agg (frC a).toArray), (2, 2, .agg (frC b).toArray)] H K := by
  refine Wi.lit (cells := frC a ++ frC b) rfl fun H1 l1 n1 k1 => k H1 _ (h.cons l1 (bs := [H.next]) (grow_data (r := RFrac) (ty := ty) (.inr ⟨H.next, 4, _, fun _ => [], rfl, rfl, by simp, by simp, ?_, ⟨by omega, k1, by simp, by simp, by show 0 + 2 * 2 ≤ 4; decide, fun i hi => ?_⟩, rfl, rfl, rfl, rfl⟩)) fun b hb => by simp at hb; omega)
  · intro c hc kc hk
    simp at hc
    subst hc
    rw [k1] at hk
    cases hk
    rfl
  · have : i = 0 ∨ i = 1 := by simp at hi; omega
    rcases this with rfl | rfl
    · exact frac_rel ha H1
    · exact frac_rel hb H1

theorem isFr_i64 {a : Frac} (h : isFr 1000000000 a = true) : (I64 a.1 ∧ I64 a.2) ∧ a.1.natAbs ≤ 1000000000 ∧ 1 ≤ a.2 ∧ a.2 ≤ 1000000000 := by
  obtain ⟨h1, h2, _⟩ := isFr_iff.1 h
  unfold I64
  omega

theorem fn31 {H0 : Heap} {Q : Post} {a b : Frac} (ha : isFr 1000000000 a = true) (hb : isFr 1000000000 b = true) (hQ : ∀ H', H0.Le H' → Q (.tuple #[.int .i64 (sgI (a.1 * b.2 - b.1 * a.2)), .int .i64 0]) H') : Runs Try.prog 31 #[.agg (frC a).toArray, .agg (frC b).toArray] H0 Q := by
  obtain ⟨a1, a2, a3⟩ := isFr_i64 ha
  obtain ⟨b1, b2, b3⟩ := isFr_i64 hb
  refine f31.enter ?_
  unfold f31.w
  refine Wl.box (Loc.start H0) fun H x h => Wl.box h fun H y h => Wl.getA (b := x) h rfl (Wl.getA (b := y) h rfl (Wl.litFr2 a1 b1 h fun H v h => Wi.call (fn67 (h.rd (cs := [v])) fun H t l ht => ?_)))
  have h := h.to l
  have : t = true := ht.2 fun z hz => by
    simp at hz
    rcases hz with rfl | rfl
    · exact ha
    · exact hb
  subst this
  simp only [gw]
  refine Wl.getA (b := x) h rfl (Wl.getA (b := y) h rfl (Wi.call (fn64 (mulA a2 (show b.2.natAbs ≤ 1000000000 by omega)) (mulA b2 (show a.2.natAbs ≤ 1000000000 by omega)) (by decide) fun H l => ?_)))
  exact hQ _ (h.to l).le

theorem fn23 {H0 : Heap} {Q : Post} {va vb : Value} {a b : List Frac} (ha : Has RFS H0 [va] a) (hb : Has RFS H0 [vb] b) (hQ : Q (.bool (decide (a = b))) H0) : Runs Try.prog 23 #[va, vb] H0 Q := by
  have hsa := ha.small
  refine f23.enter (Wl.lenH ha (Wl.lenH hb (Wi.neqC (fun hne => Wi.tru ?_) fun he => Wi.fls ?_)))
  · rw [decide_eq_false (fun e => hne (by rw [e]))] at hQ
    exact hQ
  have hl : a.length = b.length := by omega
  refine W.for_rule a.length (fun i st H => H = H0 ∧ st = (.int .i64 (i : Nat), ()) ∧ ∀ j (hj : j < a.length), j < i → a[j] = b[j]) ⟨rfl, rfl, fun j _ hj => by omega⟩ ?_
  rintro i st H J hi ⟨rfl, rfl, hok⟩ hJ
  refine Wl.lenH ha (Wi.lssC (fun hlt => Wi.tru ?_) fun hge => Wi.fls ?_)
  · have hia : i < a.length := by omega
    refine Wl.atFrH ha hia fun i1 i2 => Wl.atFrH hb (i := i) (by omega) fun i3 i4 => Wi.nePair ⟨i1, i2⟩ ⟨i3, i4⟩ ?_
    by_cases hab : a[i] = b[i]
    · rw [decide_eq_true hab]
      refine Wi.fls (Wi.add (by unfold I64; omega) (hJ _ _ hia ⟨rfl, rfl, fun j hj hji => ?_⟩))
      by_cases e : j = i
      · subst e; exact hab
      · exact hok j hj (by omega)
    · rw [decide_eq_false hab]
      refine Wi.tru ?_
      rw [decide_eq_false (fun e => hab (by subst e; rfl))] at hQ
      exact hQ
  · have : a = b := List.ext_getElem hl fun j h1 _ => hok j h1 (by omega)
    rw [decide_eq_true this] at hQ
    exact hQ

/-! ### Facts -/

theorem po_eq {q : Prob} {s : Int} {e : List Int} {t : Frac} (h : (paRes q s e t).2 = 0) (hz : t.1 = 0) : poRes q s = paRes q s e t := by
  unfold paRes at h ⊢
  by_cases hp : isProb q = true
  · rw [if_pos hp] at h ⊢
    by_cases h3 : setOk q.2.length s = true ∧ dirOk q.2.length e = true ∧ timeOk t = true
    · rw [if_pos h3] at h ⊢
      have hs : setC q s = 0 := by unfold setC; rw [if_pos hp, if_pos h3.1]
      unfold poRes
      rw [if_pos hs]
      by_cases hD : det q.2.length (mAt (colL q.2.length q.1 s.toNat)) = 0
      · rw [if_pos hD, if_pos hD]
      · rw [if_neg hD, if_neg hD]
        have ht := timeOk_iff h3.2.2
        have h1 : t.2 = 1 := by
          have := ht.2.2
          rw [hz, Int.gcd_zero_left] at this
          omega
        congr 1
        unfold ptF
        apply List.ext_getElem
        · simp [solveL]
        · intro i g1 g2
          simp only [List.getElem_map, List.getElem_range]
          unfold ptN
          rw [hz, h1, Int.mul_zero, Int.add_zero, Int.mul_one, Int.mul_one, atD]
    · rw [if_neg h3] at h; cases h
  · rw [if_neg hp] at h; cases h

theorem atG {α : Type} {l : List α} {d : α} {i : Nat} (h : i < l.length) : l.getD i d = l[i] := by simp [h]

theorem while_ex {α : Type} {q : α → Bool} : ∀ l : List α, ∃ i, i ≤ l.length ∧ (∀ j (h : j < l.length), j < i → q l[j] = true) ∧ ∀ h : i < l.length, q l[i] = false
  | [] => ⟨0, by simp, fun j h => by simp at h, fun h => by simp at h⟩
  | x :: l => by
    cases hx : q x with
    | false => exact ⟨0, by simp, fun j _ h => by omega, fun _ => hx⟩
    | true =>
      obtain ⟨i, h1, h2, h3⟩ := while_ex (q := q) l
      refine ⟨i + 1, by simpa using h1, fun j h hj => ?_, fun h => ?_⟩
      · cases j with
        | zero => exact hx
        | succ j => exact h2 j (by simpa using h) (by omega)
      · exact h3 (by simpa using h)

theorem sa_good {p : Prob} {d : List Int} {t : Frac} (h : (saRes p d t).2 = 0) : I64 (saRes p d t).1 ∧ ((paRes p (saRes p d t).1 d t).2 = 0 ∨ (paRes p (saRes p d t).1 d t).2 = 3) ∧ ∀ a ∈ (paRes p (saRes p d t).1 d t).1, 0 ≤ a.1 := by
  unfold saRes at h ⊢
  by_cases hp : isProb p = true
  case neg => rw [if_neg hp] at h; cases h
  rw [if_pos hp] at h ⊢
  by_cases h2 : dirOk p.2.length d = true ∧ timeOk t = true
  case neg => rw [if_neg h2] at h; cases h
  rw [if_pos h2] at h ⊢
  by_cases h0 : (wayR p.2.length p d).2.2 = 0
  case neg => rw [if_neg h0] at h; exact absurd h h0
  rw [if_pos h0]
  have hpb := PB.of hp
  have h32 := pow5 hpb.n5
  obtain ⟨t1, t2, t3⟩ := timeOk_iff h2.2
  obtain ⟨_, hg⟩ := way_good hpb (dirOk_iff h2.1).2 h0
  generalize wayR p.2.length p d = R at *
  obtain ⟨m, g1, g2, g3⟩ := while_ex (q := fun b => !fLt t b) R.2.1
  have em : atF R.2.1 t = m := take_while g2 g1 g3
  rw [em]
  obtain ⟨s, e1, e2, e3, e4⟩ := hg m g1
  dsimp only
  rw [e1]
  have hso : setOk p.2.length (s : Nat) = true := inR_iff.2 (by omega)
  have hb : Between R.2.1 m t := by
    refine ⟨fun hm => ?_, fun hm => ?_⟩
    · have := g2 (m - 1) (by omega) (by omega)
      rw [atG (show m - 1 < R.2.1.length by omega)]
      simp only [Bool.not_eq_true', fLt, decide_eq_false_iff_not] at this
      omega
    · have := g3 hm
      rw [atG hm]
      simp only [Bool.not_eq_false', fLt, decide_eq_true_iff] at this
      omega
  have hy := e4 t (by omega) (by omega) hb
  have ep : paRes p (s : Nat) d t = tolF (ptF p.2.length p s d t) := by
    unfold paRes
    rw [if_pos hp, if_pos ⟨hso, h2.1, h2.2⟩, Int.toNat_natCast, if_neg e3]
  rw [ep]
  refine ⟨by unfold I64; omega, ?_, ?_⟩
  · unfold tolF
    split
    · exact .inl rfl
    · exact .inr rfl
  · unfold tolF
    split
    · intro a ha
      obtain ⟨j, hj, rfl⟩ := List.mem_map.1 ha
      have hjn : j < p.2.length := by simpa using hj
      obtain ⟨q1, _, q3⟩ := sgI_pos (show 1 ≤ t.2 by omega) e3
      rw [(frac_sign q3).1, q1, ← yN_pt hjn]
      exact hy j hjn
    · simp

theorem asc_pos {B : List Frac} (h : Asc B) (hl : ∀ t ∈ B, Low t) : ∀ m (hm : m < B.length), 0 < (B[m]).1
  | 0, hm => by
    have := h 0 hm
    rw [atG hm, if_pos rfl] at this
    simp only [fLt, decide_eq_true_iff] at this
    omega
  | m + 1, hm => by
    have h0 := asc_pos h hl m (by omega)
    have := h (m + 1) hm
    rw [atG hm, if_neg (by omega), Nat.add_sub_cancel, atG (show m < B.length by omega)] at this
    simp only [fLt, decide_eq_true_iff] at this
    have l1 := (hl _ (List.getElem_mem (show m < B.length by omega))).1
    have l2 := (hl _ (List.getElem_mem hm)).1
    have k1 := Int.mul_pos h0 (show 0 < (B[m + 1]).2 by omega)
    exact Int.pos_of_mul_pos_left (show 0 < (B[m + 1]).1 * (B[m]).2 by omega) (by omega)

theorem asc_sg {B : List Frac} (h : Asc B) {m : Nat} (hm : m + 1 < B.length) : sgI ((B[m]).1 * (B[m + 1]).2 - (B[m + 1]).1 * (B[m]).2) = -1 := by
  have := h (m + 1) hm
  rw [atG hm, if_neg (by omega), Nat.add_sub_cancel, atG (show m < B.length by omega)] at this
  simp only [fLt, decide_eq_true_iff] at this
  unfold sgI
  rw [if_pos (by omega)]

theorem fol_asc {p : Prob} {d : List Int} (h : (folRes p d).2.2 = 0) : Asc (folRes p d).2.1 := by
  unfold folRes at h ⊢
  by_cases hp : isProb p = true
  · rw [if_pos hp] at h ⊢
    by_cases hd : dirOk p.2.length d = true
    · rw [if_pos hd] at h ⊢
      exact (way_good (PB.of hp) (dirOk_iff hd).2 h).1
    · rw [if_neg hd] at h; cases h
  · rw [if_neg hp] at h; cases h

end Go.Proofs.Ythfcodelpebjcaa
