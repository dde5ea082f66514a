/- Contracts of the program's runs by rules. No condition. -/
import Derived.Test.YthfcodelpebjcaaV1
import Derived.Test.YthfcodelpebjcaaV3
import Derived.Test.YthfcodelpebjcaaD7
import Derived.Test.YthfcodelpebjcaaZabG9
namespace Go.Proofs.Ythfcodelpebjcaa
open Go.Ab

/- loop.example/g01343/impl.exchanged -/
def f38.j1 (Q : Post) (x_13 : Value) (I1 : St [5, 6, 7, 8, 13] → Heap → Prop) (all_5' : Value) (first_6' : Value) (last_7' : Value) (least_8' : Value) (H : Heap) : Prop :=
  W.bin .add x_13 (.int .i64 1) H fun v6 H =>
  I1 (all_5', first_6', last_7', least_8', v6, ()) H
def f38.j3 (Q : Post) (x_13 : Value) (v8 : Value) (first_6'' : Value) (I1 : St [5, 6, 7, 8, 13] → Heap → Prop) (least_8'' : Value) (H : Heap) : Prop :=
  f38.j1 Q x_13 I1 v8 first_6'' x_13 least_8'' H
def f38.j2 (Q : Post) (point_0 : Value) (least_8 : Value) (v4 : Value) (x_13 : Value) (v8 : Value) (I1 : St [5, 6, 7, 8, 13] → Heap → Prop) (first_6'' : Value) (H : Heap) : Prop :=
  W.indexAddr 1 point_0 least_8 H fun v10 H =>
  W.get v10 H fun v11 H =>
  W.bin .lss v4 v11 H fun v12 H =>
  W.cond v12 H
  (fun H => f38.j3 Q x_13 v8 first_6'' I1 x_13 H)
  (fun H => f38.j3 Q x_13 v8 first_6'' I1 least_8 H)
def f38.l1 (Q : Post) (v1 : Value) (point_0 : Value) (rule_1 : Value) (I1 : St [5, 6, 7, 8, 13] → Heap → Prop) (all_5 : Value) (first_6 : Value) (last_7 : Value) (least_8 : Value) (x_13 : Value) (H : Heap) : Prop :=
  W.bin .lss x_13 v1 H fun v2 H =>
  W.cond v2 H
  (fun H => W.indexAddr 1 point_0 x_13 H fun v3 H =>
   W.get v3 H fun v4 H =>
   W.bin .geq v4 (.int .i64 0) H fun v5 H =>
   W.cond v5 H
   (fun H => f38.j1 Q x_13 I1 all_5 first_6 last_7 least_8 H)
   (fun H => W.bin .shl (.int .i64 1) x_13 H fun v7 H =>
    W.bin .or all_5 v7 H fun v8 H =>
    W.bin .lss first_6 (.int .i64 0) H fun v9 H =>
    W.cond v9 H
    (fun H => f38.j2 Q point_0 least_8 v4 x_13 v8 I1 x_13 H)
    (fun H => f38.j2 Q point_0 least_8 v4 x_13 v8 I1 first_6 H)))
  (fun H => W.bin .eql all_5 (.int .i64 0) H fun v13 H =>
   W.guarded v13 false (fun H k => k rule_1 H) H fun v14 H =>
   W.guarded v13 false (fun H k => W.bin .eql v14 (.int .i64 3) H k) H fun v15 H =>
   W.pick v13 (.bool true) v15 H fun v16 H =>
   W.cond v16 H
   (fun H => Q all_5 H)
   (fun H => W.bin .eql rule_1 (.int .i64 0) H fun v17 H =>
    W.cond v17 H
    (fun H => W.bin .shl (.int .i64 1) first_6 H fun v18 H =>
     Q v18 H)
    (fun H => W.bin .eql rule_1 (.int .i64 1) H fun v19 H =>
     W.cond v19 H
     (fun H => W.bin .shl (.int .i64 1) last_7 H fun v20 H =>
      Q v20 H)
     (fun H => W.bin .shl (.int .i64 1) least_8 H fun v21 H =>
      Q v21 H))))
def f38.w (Q : Post) (point_0 : Value) (rule_1 : Value) (H : Heap) : Prop :=
  W.len point_0 H fun v1 H =>
  W.loop (S := St [5, 6, 7, 8, 13]) (fun I1 s H => f38.l1 Q v1 point_0 rule_1 I1 s.1 s.2.1 s.2.2.1 s.2.2.2.1 s.2.2.2.2.1 H) ((.int .i64 0), (.int .i64 (-1)), (.int .i64 (-1)), (.int .i64 0), (.int .i64 0), ()) H
theorem f38.enter {Q : Post} {point_0 : Value} {rule_1 : Value} {H : Heap} (h : f38.w Q point_0 rule_1 H) : Runs Try.prog 38 #[point_0, rule_1] H Q :=
  fn_enter (ann := [(3, [5, 6, 7, 8, 13])]) (by kernel_rfl) Try.func38 rfl (by kernel_rfl) h (by kernel_rfl)

/- loop.example/g01343/impl.ruleCode -/
def f33.w (Q : Post) (p_0 : Value) (s_1 : Value) (rule_2 : Value) (H : Heap) : Prop :=
  W.box p_0 27 H fun v1 H =>
  W.getN 2 v1 H fun v2 H =>
  W.call Try.prog (.func (.func 66) #[] #[]) #[v2, s_1] H fun v3 H =>
  W.bin .neq v3 (.int .i64 0) H fun v4 H =>
  W.cond v4 H
  (fun H => Q v3 H)
  (fun H => W.call Try.prog (.func (.func 69) #[] #[]) #[rule_2, (.int .i64 0), (.int .i64 3)] H fun v5 H =>
   W.un .not v5 H fun v6 H =>
   W.cond v6 H
   (fun H => Q (.int .i64 2) H)
   (fun H => Q (.int .i64 0) H))
theorem f33.enter {Q : Post} {p_0 : Value} {s_1 : Value} {rule_2 : Value} {H : Heap} (h : f33.w Q p_0 s_1 rule_2 H) : Runs Try.prog 33 #[p_0, s_1, rule_2] H Q :=
  fn_enter (ann := []) (by kernel_rfl) Try.func33 rfl (by kernel_rfl) h (by kernel_rfl)

/- (loop.example/g01343/impl.Problem).walk -/
def f34.l1 (Q : Post) (v1 : Value) (rule_2 : Value) (I1 : St [1, 8] → Heap → Prop) (s_1' : Value) (out_8 : Value) (H : Heap) : Prop :=
  W.call Try.prog (.func (.func 70) #[] #[]) #[out_8, s_1'] H fun v2 H =>
  W.lit 1 [(.int .i64 0)] 2 [(0, 1, s_1')] H fun v3 H =>
  W.append 1 2 out_8 v3 H fun v4 H =>
  W.getN 2 v1 H fun v5 H =>
  W.call Try.prog (.func (.func 37) #[] #[]) #[v5, s_1'] H fun v6 H =>
  W.extract 0 v6 H fun v7 H =>
  W.extract 1 v6 H fun v8 H =>
  W.extract 2 v6 H fun v9 H =>
  W.un .not v9 H fun v10 H =>
  W.cond v10 H
  (fun H => Q (.tuple #[v4, (.int .i64 1)]) H)
  (fun H => W.cond v2 H
   (fun H => Q (.tuple #[v4, (.int .i64 2)]) H)
   (fun H => W.call Try.prog (.func (.func 38) #[] #[]) #[v7, rule_2] H fun v11 H =>
    W.bin .eql v11 (.int .i64 0) H fun v12 H =>
    W.cond v12 H
    (fun H => Q (.tuple #[v4, (.int .i64 0)]) H)
    (fun H => W.bin .xor s_1' v11 H fun v13 H =>
     I1 (v13, v4, ()) H)))
def f34.w (Q : Post) (p_0 : Value) (s_1 : Value) (rule_2 : Value) (H : Heap) : Prop :=
  W.box p_0 27 H fun v1 H =>
  W.loop (S := St [1, 8]) (fun I1 s H => f34.l1 Q v1 rule_2 I1 s.1 s.2.1 H) (s_1, (.slice none 0 0), ()) H
theorem f34.enter {Q : Post} {p_0 : Value} {s_1 : Value} {rule_2 : Value} {H : Heap} (h : f34.w Q p_0 s_1 rule_2 H) : Runs Try.prog 34 #[p_0, s_1, rule_2] H Q :=
  fn_enter (ann := [(2, [1, 8])]) (by kernel_rfl) Try.func34 rfl (by kernel_rfl) h (by kernel_rfl)


theorem fn38 {H0 : Heap} {Q : Post} {v : Value} {l : List Int} {rule : Int} (hr : Has RS H0 [v] l) (hl : l.length ≤ 5) (hru : 0 ≤ rule ∧ rule ≤ 3) (hQ : Q (.int .i64 (exV l rule : Nat)) H0) : Runs Try.prog 38 #[v, .int .i64 rule] H0 Q := by
  refine f38.enter (Wl.lenH hr ?_)
  refine W.for_rule l.length (fun i st H => H = H0 ∧ st = (.int .i64 (exA l i : Nat), .int .i64 (exF l i), .int .i64 (exL l i), .int .i64 ((exM l i).toNat : Nat), .int .i64 (i : Nat), ())) ⟨rfl, rfl⟩ ?_
  rintro i st H J hi ⟨rfl, rfl⟩ hJ
  have hinv := ex_inv l i
  have hp5 : ∀ k, k ≤ 5 → 2 ^ k ≤ 32 := fun k hk => Nat.pow_le_pow_right (n := 2) (j := 5) (by decide) hk
  refine Wi.lssC (fun hlt => Wi.tru ?_) fun hge => Wi.fls ?_
  · have hix : i < l.length := by omega
    have hI : I64 ((i : Int) + 1) := by unfold I64; omega
    have hJ := hJ (.int .i64 (exA l (i + 1) : Nat), .int .i64 (exF l (i + 1)), .int .i64 (exL l (i + 1)), .int .i64 ((exM l (i + 1)).toNat : Nat), .int .i64 ((i + 1 : Nat) : Int), ()) H hix ⟨rfl, rfl⟩
    refine Wl.atIntH hr hix fun _ => ?_
    rw [← atD hix]
    refine Wi.geqC (fun hpos => Wi.tru ?_) fun hneg => Wi.fls ?_
    · simp only [exA, exF, exL, exM, if_neg (show ¬ l.getD i 0 < 0 by omega)] at hJ
      unfold f38.j1
      exact Wi.add hI hJ
    · have hn : l.getD i 0 < 0 := by omega
      simp only [exA, exF, exL, if_pos hn] at hJ
      have ha := exA_lt l i
      have hpi := hp5 i (by omega)
      have hle : (exM l i).toNat < l.length := by rcases hinv with ⟨_, _, _, h4, _⟩ | ⟨_, _, _, h4, _⟩ <;> omega
      -- the least
      have part : ∀ f : Int, f = (if exF l i < 0 then (i : Int) else exF l i) → f38.j2 Q v (.int .i64 ((exM l i).toNat : Nat)) (.int .i64 (l.getD i 0)) (.int .i64 (i : Nat)) (.int .i64 ((exA l i ||| 2 ^ i : Nat) : Int)) J (.int .i64 f) H := fun f hf => by
        subst hf
        unfold f38.j2
        refine Wl.atIntH hr hle fun _ => ?_
        rw [← atD hle]
        refine Wi.lssC (fun hlt => Wi.tru ?_) fun hge => Wi.fls ?_
        · unfold f38.j3 f38.j1
          have e : exM l (i + 1) = i := by simp only [exM, if_pos hn]; rw [if_pos (.inr hlt)]
          rw [e, Int.toNat_natCast] at hJ
          exact Wi.add hI hJ
        · unfold f38.j3 f38.j1
          have e : (exM l (i + 1)).toNat = (exM l i).toNat := by
            simp only [exM, if_pos hn]
            rcases hinv with ⟨_, _, _, h4, h5⟩ | ⟨_, _, _, h4, _⟩
            · rw [if_pos (.inl (by omega)), h4, Int.toNat_natCast]
              rw [h4] at hge
              have hge : ¬ l.getD i 0 < l.getD 0 0 := hge
              rcases Nat.eq_zero_or_pos i with h0 | h0
              · omega
              · have := h5 0 h0
                omega
            · rw [if_neg]
              rintro (g | g)
              · omega
              · exact hge g
          rw [e] at hJ
          exact Wi.add hI hJ
      refine Wi.shl1 (by omega) (Wi.orN (by omega) (by omega) (Wi.lssC (fun hlt => Wi.tru ?_) fun hge => Wi.fls ?_))
      · exact part _ (by rw [if_pos hlt])
      · exact part _ (by rw [if_neg hge])
  · have : i = l.length := by omega
    subst this
    have hlt := exA_lt l l.length
    unfold exV at hQ
    rcases hinv with ⟨h1, h2, h3, h4, h5⟩ | ⟨h1, h2, h3, h4, h5⟩
    · rw [if_pos h1] at hQ
      refine Wi.eqlC (fun _ => ?_) fun g => absurd (by rw [h1]; rfl) g
      simp only [gw]
      rw [h1]
      exact hQ
    · rw [if_neg h1] at hQ
      refine Wi.eqlC (fun g => absurd (by omega) h1) fun _ => ?_
      simp only [gw]
      refine Wi.eqlC (fun e3 => ?_) fun e3 => ?_
      · simp only [gw]
        rw [if_pos e3] at hQ
        exact hQ
      · simp only [gw]
        rw [if_neg e3] at hQ
        refine Wi.eqlC (fun e0 => Wi.tru ?_) fun e0 => Wi.fls ?_
        · rw [if_pos e0] at hQ
          have e := Int.toNat_of_nonneg h2.1
          rw [← e]
          exact Wi.shl1 (by omega) hQ
        · rw [if_neg e0] at hQ
          refine Wi.eqlC (fun e1 => Wi.tru ?_) fun e1 => Wi.fls ?_
          · rw [if_pos e1] at hQ
            have e := Int.toNat_of_nonneg h3.1
            rw [← e]
            exact Wi.shl1 (by omega) hQ
          · rw [if_neg e1] at hQ
            exact Wi.shl1 (by omega) hQ

/-- The code of a problem, the empty set and a rule. -/
def ruC (p : Prob) (rule : Int) : Int := if isProb p = true then (if inR 0 3 rule = true then 0 else 2) else 1

theorem ruC_eq {p : Prob} {rule : Int} (h : ruC p rule = 0) : isProb p = true ∧ 0 ≤ rule ∧ rule ≤ 3 := by
  unfold ruC at h
  by_cases h1 : isProb p = true
  · rw [if_pos h1] at h
    by_cases h2 : inR 0 3 rule = true
    · exact ⟨h1, inR_iff.1 h2⟩
    · rw [if_neg h2] at h; cases h
  · rw [if_neg h1] at h; cases h

theorem setOk_zero {n : Nat} : setOk n 0 = true := inR_iff.2 ⟨Int.le_refl _, by have := Nat.pow_pos (n := n) (show 0 < 2 by decide); omega⟩

theorem fn33 {H0 : Heap} {Q : Post} {cs : List Value} {p : Prob} {rule : Int} (hr : Has RProblem H0 cs p) (hQ : ∀ H', H0.Le H' → Q (.int .i64 (ruC p rule)) H') : Runs Try.prog 33 #[.agg cs.toArray, .int .i64 0, .int .i64 rule] H0 Q := by
  have hlen := hr.len
  have h := (Loc.start H0).lent hr
  refine f33.enter (Wl.box h fun H b h => Wl.getA h hlen (Wi.call (fn66 (h.rd (cs := cs)) fun H l => ?_)))
  have h := h.to l
  unfold ruC at hQ
  unfold setC
  cases hp : isProb p with
  | false =>
    have := hQ _ h.le
    simp only [hp] at this
    exact Wi.neqC (fun _ => Wi.tru this) fun e => absurd e (by simp)
  | true =>
    simp only [setOk_zero, if_true]
    refine Wi.neqC (fun g => absurd rfl g) fun _ => Wi.fls (Wi.call (fn69 ?_))
    cases hru : inR 0 3 rule with
    | false =>
      simp only [gw]
      have := hQ _ h.le
      simp only [hp, hru] at this
      exact this
    | true =>
      simp only [gw]
      have := hQ _ h.le
      simp only [hp, hru] at this
      exact this

/-- A list of sets, as numbers. -/
abbrev setsL (l : List Nat) : List Int := l.map fun (s : Nat) => (s : Int)

theorem setsL_mem {l : List Nat} {s : Nat} : (setsL l).contains (s : Int) = decide (s ∈ l) := by
  rw [Bool.eq_iff_iff]
  simp only [List.contains_eq_mem, decide_eq_true_eq, setsL, List.mem_map]
  constructor
  · rintro ⟨a, ha, e⟩
    have : a = s := by omega
    exact this ▸ ha
  · exact fun h => ⟨s, h, rfl⟩

theorem setsL_push (f : Nat → Nat) (k : Nat) : setsL ((List.range k).map f) ++ [(f k : Int)] = setsL ((List.range (k + 1)).map f) := by
  rw [List.range_succ, List.map_append]
  simp [setsL]

theorem fn34 {H0 : Heap} {Q : Post} {cs : List Value} {p : Prob} {n s0 : Nat} {rule : Int} (hr : Has RProblem H0 cs p) (hpb : PB n p) (hs : s0 < 2 ^ n) (hru : 0 ≤ rule ∧ rule ≤ 3)
    (hQ : ∀ k e, RunEnd n p rule s0 k e → ∀ H' u, Fresh RS H0 [u] (setsL ((List.range (k + 1)).map (ss n p rule s0))) H' → Q (.tuple #[u, .int .i64 e]) H') : Runs Try.prog 34 #[.agg cs.toArray, .int .i64 (s0 : Nat), .int .i64 rule] H0 Q := by
  have hlen := hr.len
  have hn := hpb.n5
  have h32 := pow5 hn
  have h := (Loc.start H0).lent hr
  refine f34.enter (Wl.box h fun H b h => ?_)
  refine W.for_rule (2 ^ n) (fun k st H => ∃ u, st = (.int .i64 (ss n p rule s0 k : Nat), u, ()) ∧ Ab.Loc H0 [.grow Rd.int 2 u (setsL ((List.range k).map (ss n p rule s0))), .box b cs, .lent RProblem cs p] H ∧ ∀ j, j < k → cls n p rule s0 j = none) ⟨_, rfl, h.nilG Rd.int 2, fun j hj => by omega⟩ ?_
  rintro k st H J hk ⟨u, rfl, h, hcls⟩ hJ
  have hsk := ss_lt (rule := rule) (p := p) hs k
  generalize hN : 2 ^ n = N at *
  obtain ⟨_, q⟩ := h.rd (cs := [u])
  refine Wi.call (fn70 q ?_)
  rw [setsL_mem]
  refine Wl.pushP (r := Rd.int) (x := (ss n p rule s0 k : Int)) rfl rfl rfl (fun _ => ⟨rfl, rfl, by unfold I64; omega⟩) h (by simp; omega) fun H u' h => ?_
  have h : Ab.Loc H0 [.grow Rd.int 2 u' (setsL ((List.range (k + 1)).map (ss n p rule s0))), .box b cs, .lent RProblem cs p] H := by
    rw [← setsL_push]; exact h
  have fin : ∀ e H', cls n p rule s0 k = some e → Ab.Loc H0 [.grow Rd.int 2 u' (setsL ((List.range (k + 1)).map (ss n p rule s0))), .box b cs, .lent RProblem cs p] H' → Q (.tuple #[u', .int .i64 e]) H' := fun e H' hc h => hQ k e ⟨hcls, hc⟩ _ _ ((h.asData (i := 0) rfl).ret (i := 0) rfl)
  refine Wl.getA h hlen (Wi.call (fn37 (h.rd (cs := cs)) hpb (by omega) (fun hz H l => ?_) fun hnz H w f => ?_))
  · simp only [gw]
    exact fin 1 _ (by unfold cls; rw [if_pos hz]) (h.to l)
  · simp only [gw]
    have h := h.add f
    by_cases hm : ss n p rule s0 k ∈ (List.range k).map (ss n p rule s0)
    · rw [decide_eq_true hm]
      simp only [gw]
      exact fin 2 _ (by unfold cls; rw [if_neg hnz, if_pos hm]) h.tl
    · rw [decide_eq_false hm]
      simp only [gw]
      have hpl := ptOf_len (n := n) (p := p) (ss n p rule s0 k)
      refine Wi.call (fn38 (h.rd (cs := [w])) (by have := hpl; unfold ptOf at this; omega) hru ?_)
      have h := h.tl
      rw [show pointL n (colL n p.1 (ss n p rule s0 k)) p.2 = ptOf n p (ss n p rule s0 k) from rfl]
      refine Wi.eqlC (fun hz => Wi.tru ?_) fun hnz2 => Wi.fls ?_
      · exact fin 0 _ (by unfold cls; rw [if_neg hnz, if_neg hm, if_pos (by omega)]) h
      · have hc : cls n p rule s0 k = none := by unfold cls; rw [if_neg hnz, if_neg hm, if_neg (by omega)]
        have hcls' : ∀ j, j < k + 1 → cls n p rule s0 j = none := fun j hj => by
          by_cases e : j = k
          · subst e; exact hc
          · exact hcls j (by omega)
        have hk2 := run_short (k := k) (by rw [hN]; exact hs) fun j hj => hcls' j (by omega)
        have hv := exV_lt (ptOf n p (ss n p rule s0 k)) rule
        rw [hpl, hN] at hv
        rw [hN] at hk2
        exact Wi.xorN (by omega) (by omega) (hJ _ _ hk2 ⟨u', rfl, h, hcls'⟩)

end Go.Proofs.Ythfcodelpebjcaa
