/- Contracts of the program's runs by rules. No condition. -/
import Derived.Test.YtdmgomeogedjgaaGreatGVV
import Derived.Test.YtdmgomeogedjgaaGreatD7
import Derived.Test.YtdmgomeogedjgaaGreatZabG9
namespace Go.Proofs.YtdmgomeogedjgaaGreat
open Go.Ab

/- loop.example/g01343/impl.exchanged -/
def f75.j1 (Q : Post) (x_13 : Value) (I1 : St [5, 6, 7, 8, 13] → Heap → Prop) (all_5' : Value) (first_6' : Value) (last_7' : Value) (least_8' : Value) (H : Heap) : Prop :=
  W.bin .add x_13 (.int .i64 1) H fun v6 H =>
  I1 (all_5', first_6', last_7', least_8', v6, ()) H
def f75.j3 (Q : Post) (x_13 : Value) (v8 : Value) (first_6'' : Value) (I1 : St [5, 6, 7, 8, 13] → Heap → Prop) (least_8'' : Value) (H : Heap) : Prop :=
  f75.j1 Q x_13 I1 v8 first_6'' x_13 least_8'' H
def f75.j2 (Q : Post) (point_0 : Value) (least_8 : Value) (v4 : Value) (x_13 : Value) (v8 : Value) (I1 : St [5, 6, 7, 8, 13] → Heap → Prop) (first_6'' : Value) (H : Heap) : Prop :=
  W.indexAddr 1 point_0 least_8 H fun v10 H =>
  W.get v10 H fun v11 H =>
  W.bin .lss v4 v11 H fun v12 H =>
  W.cond v12 H
  (fun H => f75.j3 Q x_13 v8 first_6'' I1 x_13 H)
  (fun H => f75.j3 Q x_13 v8 first_6'' I1 least_8 H)
def f75.l1 (Q : Post) (v1 : Value) (point_0 : Value) (rule_1 : Value) (I1 : St [5, 6, 7, 8, 13] → Heap → Prop) (all_5 : Value) (first_6 : Value) (last_7 : Value) (least_8 : Value) (x_13 : Value) (H : Heap) : Prop :=
  W.bin .lss x_13 v1 H fun v2 H =>
  W.cond v2 H
  (fun H => W.indexAddr 1 point_0 x_13 H fun v3 H =>
   W.get v3 H fun v4 H =>
   W.bin .geq v4 (.int .i64 0) H fun v5 H =>
   W.cond v5 H
   (fun H => f75.j1 Q x_13 I1 all_5 first_6 last_7 least_8 H)
   (fun H => W.bin .shl (.int .i64 1) x_13 H fun v7 H =>
    W.bin .or all_5 v7 H fun v8 H =>
    W.bin .lss first_6 (.int .i64 0) H fun v9 H =>
    W.cond v9 H
    (fun H => f75.j2 Q point_0 least_8 v4 x_13 v8 I1 x_13 H)
    (fun H => f75.j2 Q point_0 least_8 v4 x_13 v8 I1 first_6 H)))
  (fun H => W.bin .eql all_5 (.int .i64 0) H fun v13 H =>
   W.guarded v13 false (fun H k => k rule_1 H) H fun v14 H =>
   W.guarded v13 false (fun H k => W.bin .eql v14 (.int .i64 3) H k) H fun v15 H =>
   W.pick v13 (.bool true) v15 H fun v16 H =>
   W.cond v16 H
   (fun H => Q all_5 H)
   (fun H => W.bin .eql rule_1 (.int .i64 0) H fun v17 H =>
    W.cond v17 H
    (fun H => W.bin .shl (.int .i64 1) first_6 H fun v18 H =>
     Q v18 H)
    (fun H => W.bin .eql rule_1 (.int .i64 1) H fun v19 H =>
     W.cond v19 H
     (fun H => W.bin .shl (.int .i64 1) last_7 H fun v20 H =>
      Q v20 H)
     (fun H => W.bin .shl (.int .i64 1) least_8 H fun v21 H =>
      Q v21 H))))
def f75.w (Q : Post) (point_0 : Value) (rule_1 : Value) (H : Heap) : Prop :=
  W.len point_0 H fun v1 H =>
  W.loop (S := St [5, 6, 7, 8, 13]) (fun I1 s H => f75.l1 Q v1 point_0 rule_1 I1 s.1 s.2.1 s.2.2.1 s.2.2.2.1 s.2.2.2.2.1 H) ((.int .i64 0), (.int .i64 (-1)), (.int .i64 (-1)), (.int .i64 0), (.int .i64 0), ()) H
theorem f75.enter {Q : Post} {point_0 : Value} {rule_1 : Value} {H : Heap} (h : f75.w Q point_0 rule_1 H) : Runs Tryz.prog 75 #[point_0, rule_1] H Q :=
  fn_enter (ann := [(3, [5, 6, 7, 8, 13])]) (by kernel_rfl) Tryz.func75 rfl (by kernel_rfl) h (by kernel_rfl)

/- loop.example/g01343/impl.ruleCode -/
def f33.w (Q : Post) (p_0 : Value) (s_1 : Value) (rule_2 : Value) (H : Heap) : Prop :=
  W.box p_0 31 H fun v1 H =>
  W.getN 2 v1 H fun v2 H =>
  W.call Tryz.prog (.func (.func 48) #[] #[]) #[v2, s_1] H fun v3 H =>
  W.bin .neq v3 (.int .i64 0) H fun v4 H =>
  W.cond v4 H
  (fun H => Q v3 H)
  (fun H => W.call Tryz.prog (.func (.func 31) #[] #[]) #[rule_2, (.int .i64 0), (.int .i64 3)] H fun v5 H =>
   W.un .not v5 H fun v6 H =>
   W.cond v6 H
   (fun H => Q (.int .i64 2) H)
   (fun H => Q (.int .i64 0) H))
theorem f33.enter {Q : Post} {p_0 : Value} {s_1 : Value} {rule_2 : Value} {H : Heap} (h : f33.w Q p_0 s_1 rule_2 H) : Runs Tryz.prog 33 #[p_0, s_1, rule_2] H Q :=
  fn_enter (ann := []) (by kernel_rfl) Tryz.func33 rfl (by kernel_rfl) h (by kernel_rfl)

/- (loop.example/g01343/impl.Problem).walk -/
def f34.l1 (Q : Post) (v1 : Value) (rule_2 : Value) (I1 : St [1, 8] → Heap → Prop) (s_1' : Value) (out_8 : Value) (H : Heap) : Prop :=
  W.call Tryz.prog (.func (.func 74) #[] #[]) #[out_8, s_1'] H fun v2 H =>
  W.lit 1 [(.int .i64 0)] 2 [(0, 1, s_1')] H fun v3 H =>
  W.append 1 2 out_8 v3 H fun v4 H =>
  W.getN 2 v1 H fun v5 H =>
  W.call Tryz.prog (.func (.func 49) #[] #[]) #[v5, s_1'] H fun v6 H =>
  W.extract 0 v6 H fun v7 H =>
  W.extract 1 v6 H fun v8 H =>
  W.extract 2 v6 H fun v9 H =>
  W.un .not v9 H fun v10 H =>
  W.cond v10 H
  (fun H => Q (.tuple #[v4, (.int .i64 1)]) H)
  (fun H => W.cond v2 H
   (fun H => Q (.tuple #[v4, (.int .i64 2)]) H)
   (fun H => W.call Tryz.prog (.func (.func 75) #[] #[]) #[v7, rule_2] H fun v11 H =>
    W.bin .eql v11 (.int .i64 0) H fun v12 H =>
    W.cond v12 H
    (fun H => Q (.tuple #[v4, (.int .i64 0)]) H)
    (fun H => W.bin .xor s_1' v11 H fun v13 H =>
     I1 (v13, v4, ()) H)))
def f34.w (Q : Post) (p_0 : Value) (s_1 : Value) (rule_2 : Value) (H : Heap) : Prop :=
  W.box p_0 31 H fun v1 H =>
  W.loop (S := St [1, 8]) (fun I1 s H => f34.l1 Q v1 rule_2 I1 s.1 s.2.1 H) (s_1, (.slice none 0 0), ()) H
theorem f34.enter {Q : Post} {p_0 : Value} {s_1 : Value} {rule_2 : Value} {H : Heap} (h : f34.w Q p_0 s_1 rule_2 H) : Runs Tryz.prog 34 #[p_0, s_1, rule_2] H Q :=
  fn_enter (ann := [(2, [1, 8])]) (by kernel_rfl) Tryz.func34 rfl (by kernel_rfl) h (by kernel_rfl)


theorem fn75 {H0 : Heap} {Q : Post} {v : Value} {l : List Int} {rule : Int} (hr : Has RS H0 [v] l) (hl : l.length ≤ 5) (hru : 0 ≤ rule ∧ rule ≤ 3) (hQ : Q (.int .i64 (exV l rule : Nat)) H0) : Runs Tryz.prog 75 #[v, .int .i64 rule] H0 Q := by
  refine f75.enter (Wl.lenH hr ?_)
  refine W.for_rule l.length (fun i st H => H = H0 ∧ st = (.int .i64 (exA l i : Nat), .int .i64 (exF l i), .int .i64 (exL l i), .int .i64 ((exM l i).toNat : Nat), .int .i64 (i : Nat), ())) ⟨rfl, rfl⟩ ?_
  rintro i st H J hi ⟨rfl, rfl⟩ hJ
  have hinv := ex_inv l i
  have hp5 : ∀ k, k ≤ 5 → 2 ^ k ≤ 32 := fun k hk => Nat.pow_le_pow_right (n := 2) (j := 5) (by decide) hk
  refine Wi.lssC (fun hlt => Wi.tru ?_) fun hge => Wi.fls ?_
  · have hix : i < l.length := by omega
    have hI : I64 ((i : Int) + 1) := by unfold I64; omega
    have hJ := hJ (.int .i64 (exA l (i + 1) : Nat), .int .i64 (exF l (i + 1)), .int .i64 (exL l (i + 1)), .int .i64 ((exM l (i + 1)).toNat : Nat), .int .i64 ((i + 1 : Nat) : Int), ()) H hix ⟨rfl, rfl⟩
    refine Wl.atIntH hr hix fun _ => ?_
    rw [← atD hix]
    refine Wi.geqC (fun hpos => Wi.tru ?_) fun hneg => Wi.fls ?_
    · simp only [exA, exF, exL, exM, if_neg (show ¬ l.getD i 0 < 0 by omega)] at hJ
      unfold f75.j1
      exact Wi.add hI hJ
    · have hn : l.getD i 0 < 0 := by omega
      simp only [exA, exF, exL, if_pos hn] at hJ
      have ha := exA_lt l i
      have hpi := hp5 i (by omega)
      have hle : (exM l i).toNat < l.length := by rcases hinv with ⟨_, _, _, h4, _⟩ | ⟨_, _, _, h4, _⟩ <;> omega
      -- the least
      have part : ∀ f : Int, f = (if exF l i < 0 then (i : Int) else exF l i) → f75.j2 Q v (.int .i64 ((exM l i).toNat : Nat)) (.int .i64 (l.getD i 0)) (.int .i64 (i : Nat)) (.int .i64 ((exA l i ||| 2 ^ i : Nat) : Int)) J (.int .i64 f) H := fun f hf => by
        subst hf
        unfold f75.j2
        refine Wl.atIntH hr hle fun _ => ?_
        rw [← atD hle]
        refine Wi.lssC (fun hlt => Wi.tru ?_) fun hge => Wi.fls ?_
        · unfold f75.j3 f75.j1
          have e : exM l (i + 1) = i := by simp only [exM, if_pos hn]; rw [if_pos (.inr hlt)]
          rw [e, Int.toNat_natCast] at hJ
          exact Wi.add hI hJ
        · unfold f75.j3 f75.j1
          have e : (exM l (i + 1)).toNat = (exM l i).toNat := by
            simp only [exM, if_pos hn]
            rcases hinv with ⟨_, _, _, h4, h5⟩ | ⟨_, _, _, h4, _⟩
            · rw [if_pos (.inl (by omega)), h4, Int.toNat_natCast]
              rw [h4] at hge
              have hge : ¬ l.getD i 0 < l.getD 0 0 := hge
              rcases Nat.eq_zero_or_pos i with h0 | h0
              · omega
              · have := h5 0 h0
                omega
            · rw [if_neg]
              rintro (g | g)
              · omega
              · exact hge g
          rw [e] at hJ
          exact Wi.add hI hJ
      refine Wi.shl1 (by omega) (Wi.orN (by omega) (by omega) (Wi.lssC (fun hlt => Wi.tru ?_) fun hge => Wi.fls ?_))
      · exact part _ (by rw [if_pos hlt])
      · exact part _ (by rw [if_neg hge])
  · have : i = l.length := by omega
    subst this
    have hlt := exA_lt l l.length
    unfold exV at hQ
    rcases hinv with ⟨h1, h2, h3, h4, h5⟩ | ⟨h1, h2, h3, h4, h5⟩
    · rw [if_pos h1] at hQ
      refine Wi.eqlC (fun _ => ?_) fun g => absurd (by rw [h1]; rfl) g
      simp only [gw]
      rw [h1]
      exact hQ
    · rw [if_neg h1] at hQ
      refine Wi.eqlC (fun g => absurd (by omega) h1) fun _ => ?_
      simp only [gw]
      refine Wi.eqlC (fun e3 => ?_) fun e3 => ?_
      · simp only [gw]
        rw [if_pos e3] at hQ
        exact hQ
      · simp only [gw]
        rw [if_neg e3] at hQ
        refine Wi.eqlC (fun e0 => Wi.tru ?_) fun e0 => Wi.fls ?_
        · rw [if_pos e0] at hQ
          have e := Int.toNat_of_nonneg h2.1
          rw [← e]
          exact Wi.shl1 (by omega) hQ
        · rw [if_neg e0] at hQ
          refine Wi.eqlC (fun e1 => Wi.tru ?_) fun e1 => Wi.fls ?_
          · rw [if_pos e1] at hQ
            have e := Int.toNat_of_nonneg h3.1
            rw [← e]
            exact Wi.shl1 (by omega) hQ
          · rw [if_neg e1] at hQ
            exact Wi.shl1 (by omega) hQ

/-- The code of a problem, the empty set and a rule. -/
def ruC (p : Prob) (rule : Int) : Int := if isProb p = true then (if inR 0 3 rule = true then 0 else 2) else 1

theorem ruC_eq {p : Prob} {rule : Int} (h : ruC p rule = 0) : isProb p = true ∧ 0 ≤ rule ∧ rule ≤ 3 := by
  unfold ruC at h
  by_cases h1 : isProb p = true
  · rw [if_pos h1] at h
    by_cases h2 : inR 0 3 rule = true
    · exact ⟨h1, inR_iff.1 h2⟩
    · rw [if_neg h2] at h; cases h
  · rw [if_neg h1] at h; cases h

theorem setOk_zero {n : Nat} : setOk n 0 = true := inR_iff.2 ⟨Int.le_refl _, by have := Nat.pow_pos (n := n) (show 0 < 2 by decide); omega⟩

theorem fn33 {H0 : Heap} {Q : Post} {cs : List Value} {p : Prob} {rule : Int} (hr : Has RProblem H0 cs p) (hQ : ∀ H', H0.Le H' → Q (.int .i64 (ruC p rule)) H') : Runs Tryz.prog 33 #[.agg cs.toArray, .int .i64 0, .int .i64 rule] H0 Q := by
  have hlen := hr.len
  have h := (Loc.start H0).lent hr
  refine f33.enter (Wl.box h fun H b h => Wl.getA h hlen (Wi.call (fn48 (h.rd (cs := cs)) fun H l => ?_)))
  have h := h.to l
  unfold ruC at hQ
  unfold setC
  cases hp : isProb p with
  | false =>
    have := hQ _ h.le
    simp only [hp] at this
    exact Wi.neqC (fun _ => Wi.tru this) fun e => absurd e (by simp)
  | true =>
    simp only [setOk_zero, if_true]
    refine Wi.neqC (fun g => absurd rfl g) fun _ => Wi.fls (Wi.call (fn31 ?_))
    cases hru : inR 0 3 rule with
    | false =>
      simp only [gw]
      have := hQ _ h.le
      simp only [hp, hru] at this
      exact this
    | true =>
      simp only [gw]
      have := hQ _ h.le
      simp only [hp, hru] at this
      exact this

/-- A list of sets, as numbers. -/
abbrev setsL (l : List Nat) : List Int := l.map fun (s : Nat) => (s : Int)

theorem setsL_mem {l : List Nat} {s : Nat} : (setsL l).contains (s : Int) = decide (s ∈ l) := by
  rw [Bool.eq_iff_iff]
  simp only [List.contains_eq_mem, decide_eq_true_eq, setsL, List.mem_map]
  constructor
  · rintro ⟨a, ha, e⟩
    have : a = s := by omega
    exact this ▸ ha
  · exact fun h => ⟨s, h, rfl⟩

theorem setsL_push (f : Nat → Nat) (k : Nat) : setsL ((List.range k).map f) ++ [(f k : Int)] = setsL ((List.range (k + 1)).map f) := by
  rw [List.range_succ, List.map_append]
  simp [setsL]

theorem fn34 {H0 : Heap} {Q : Post} {cs : List Value} {p : Prob} {n s0 : Nat} {rule : Int} (hr : Has RProblem H0 cs p) (hpb : PB n p) (hs : s0 < 2 ^ n) (hru : 0 ≤ rule ∧ rule ≤ 3)
    (hQ : ∀ k e, RunEnd n p rule s0 k e → ∀ H' u, Fresh RS H0 [u] (setsL ((List.range (k + 1)).map (ss n p rule s0))) H' → Q (.tuple #[u, .int .i64 e]) H') : Runs Tryz.prog 34 #[.agg cs.toArray, .int .i64 (s0 : Nat), .int .i64 rule] H0 Q := by
  have hlen := hr.len
  have hn := hpb.n5
  have h32 := pow5 hn
  have h := (Loc.start H0).lent hr
  refine f34.enter (Wl.box h fun H b h => ?_)
  refine W.for_rule (2 ^ n) (fun k st H => ∃ u, st = (.int .i64 (ss n p rule s0 k : Nat), u, ()) ∧ Ab.Loc H0 [.grow Rd.int 2 u (setsL ((List.range k).map (ss n p rule s0))), .box b cs, .lent RProblem cs p] H ∧ ∀ j, j < k → cls n p rule s0 j = none) ⟨_, rfl, h.nilG Rd.int 2, fun j hj => by omega⟩ ?_
  rintro k st H J hk ⟨u, rfl, h, hcls⟩ hJ
  have hsk := ss_lt (rule := rule) (p := p) hs k
  generalize hN : 2 ^ n = N at *
  obtain ⟨_, q⟩ := h.rd (cs := [u])
  refine Wi.call (fn74 q ?_)
  rw [setsL_mem]
  refine Wl.pushP (r := Rd.int) (x := (ss n p rule s0 k : Int)) rfl rfl rfl (fun _ => ⟨rfl, rfl, by unfold I64; omega⟩) h (by simp; omega) fun H u' h => ?_
  have h : Ab.Loc H0 [.grow Rd.int 2 u' (setsL ((List.range (k + 1)).map (ss n p rule s0))), .box b cs, .lent RProblem cs p] H := by
    rw [← setsL_push]; exact h
  have fin : ∀ e H', cls n p rule s0 k = some e → Ab.Loc H0 [.grow Rd.int 2 u' (setsL ((List.range (k + 1)).map (ss n p rule s0))), .box b cs, .lent RProblem cs p] H' → Q (.tuple #[u', .int .i64 e]) H' := fun e H' hc h => hQ k e ⟨hcls, hc⟩ _ _ ((h.asData (i := 0) rfl).ret (i := 0) rfl)
  refine Wl.getA h hlen (Wi.call (fn49 (h.rd (cs := cs)) hpb (by omega) (fun hz H l => ?_) fun hnz H w f => ?_))
  · simp only [gw]
    exact fin 1 _ (by unfold cls; rw [if_pos hz]) (h.to l)
  · simp only [gw]
    have h := h.add f
    by_cases hm : ss n p rule s0 k ∈ (List.range k).map (ss n p rule s0)
    · rw [decide_eq_true hm]
      simp only [gw]
      exact fin 2 _ (by unfold cls; rw [if_neg hnz, if_pos hm]) h.tl
    · rw [decide_eq_false hm]
      simp only [gw]
      have hpl := ptOf_len (n := n) (p := p) (ss n p rule s0 k)
      refine Wi.call (fn75 (h.rd (cs := [w])) (by have := hpl; unfold ptOf at this; omega) hru ?_)
      have h := h.tl
      rw [show pointL n (colL n p.1 (ss n p rule s0 k)) p.2 = ptOf n p (ss n p rule s0 k) from rfl]
      refine Wi.eqlC (fun hz => Wi.tru ?_) fun hnz2 => Wi.fls ?_
      · exact fin 0 _ (by unfold cls; rw [if_neg hnz, if_neg hm, if_pos (by omega)]) h
      · have hc : cls n p rule s0 k = none := by unfold cls; rw [if_neg hnz, if_neg hm, if_neg (by omega)]
        have hcls' : ∀ j, j < k + 1 → cls n p rule s0 j = none := fun j hj => by
          by_cases e : j = k
          · subst e; exact hc
          · exact hcls j (by omega)
        have hk2 := run_short (k := k) (by rw [hN]; exact hs) fun j hj => hcls' j (by omega)
        have hv := exV_lt (ptOf n p (ss n p rule s0 k)) rule
        rw [hpl, hN] at hv
        rw [hN] at hk2
        exact Wi.xorN (by omega) (by omega) (hJ _ _ hk2 ⟨u', rfl, h, hcls'⟩)

end Go.Proofs.YtdmgomeogedjgaaGreat
/-! Contracts of the reference's runs by rules. No condition. -/
namespace Go.Proofs.YtdmgomeogedjgaaGreat
open Go.Ab

/- loop.example/g01343/spec.l08Less -/
def f125.w (Q : Post) (a_0 : Value) (H : Heap) : Prop :=
  W.box a_0 67 H fun v1 H =>
  W.fieldAddr 0 v1 H fun v2 H =>
  W.get v2 H fun v3 H =>
  W.bin .lss v3 (.int .i64 0) H fun v4 H =>
  Q v4 H
theorem f125.enter {Q : Post} {a_0 : Value} {H : Heap} (h : f125.w Q a_0 H) : Runs Tryz.prog 125 #[a_0] H Q :=
  fn_enter (ann := []) (by kernel_rfl) Tryz.func125 rfl (by kernel_rfl) h (by kernel_rfl)

/- loop.example/g01343/spec.l01Less -/
def f109.w (Q : Post) (a_0 : Value) (b_1 : Value) (H : Heap) : Prop :=
  W.box a_0 67 H fun v1 H =>
  W.box b_1 67 H fun v2 H =>
  W.fieldAddr 0 v1 H fun v3 H =>
  W.get v3 H fun v4 H =>
  W.fieldAddr 1 v2 H fun v5 H =>
  W.get v5 H fun v6 H =>
  W.bin .mul v4 v6 H fun v7 H =>
  W.fieldAddr 0 v2 H fun v8 H =>
  W.get v8 H fun v9 H =>
  W.fieldAddr 1 v1 H fun v10 H =>
  W.get v10 H fun v11 H =>
  W.bin .mul v9 v11 H fun v12 H =>
  W.bin .lss v7 v12 H fun v13 H =>
  Q v13 H
theorem f109.enter {Q : Post} {a_0 : Value} {b_1 : Value} {H : Heap} (h : f109.w Q a_0 b_1 H) : Runs Tryz.prog 109 #[a_0, b_1] H Q :=
  fn_enter (ann := []) (by kernel_rfl) Tryz.func109 rfl (by kernel_rfl) h (by kernel_rfl)

/- loop.example/g01343/spec.l08Step -/
def f76.j1 (Q : Post) (i_15 : Value) (I1 : St [11, 12, 13, 14, 15] → Heap → Prop) (first_11' : Value) (last_12' : Value) (least_13' : Value) (all_14' : Value) (H : Heap) : Prop :=
  W.bin .add i_15 (.int .i64 1) H fun v13 H =>
  I1 (first_11', last_12', least_13', all_14', v13, ()) H
def f76.j3 (Q : Post) (i_15 : Value) (all_14 : Value) (first_11'' : Value) (I1 : St [11, 12, 13, 14, 15] → Heap → Prop) (least_13'' : Value) (H : Heap) : Prop :=
  W.conv .u64 i_15 H fun v26 H =>
  W.bin .shl (.int .i64 1) v26 H fun v27 H =>
  W.bin .or all_14 v27 H fun v28 H =>
  f76.j1 Q i_15 I1 first_11'' i_15 least_13'' v28 H
def f76.j2 (Q : Post) (least_13 : Value) (v4 : Value) (i_15 : Value) (all_14 : Value) (I1 : St [11, 12, 13, 14, 15] → Heap → Prop) (first_11'' : Value) (H : Heap) : Prop :=
  W.bin .lss least_13 (.int .i64 0) H fun v15 H =>
  W.guarded v15 false (fun H k => k v4 H) H fun v16 H =>
  W.guarded v15 false (fun H k => k i_15 H) H fun v17 H =>
  W.guarded v15 false (fun H k => W.indexAddr 2 v16 v17 H k) H fun v18 H =>
  W.guarded v15 false (fun H k => W.getN 2 v18 H k) H fun v19 H =>
  W.guarded v15 false (fun H k => k v4 H) H fun v20 H =>
  W.guarded v15 false (fun H k => k least_13 H) H fun v21 H =>
  W.guarded v15 false (fun H k => W.indexAddr 2 v20 v21 H k) H fun v22 H =>
  W.guarded v15 false (fun H k => W.getN 2 v22 H k) H fun v23 H =>
  W.guarded v15 false (fun H k => W.callQ Tryz.prog (.func (.func 109) #[] #[]) #[v19, v23] H k) H fun v24 H =>
  W.pick v15 (.bool true) v24 H fun v25 H =>
  W.cond v25 H
  (fun H => f76.j3 Q i_15 all_14 first_11'' I1 i_15 H)
  (fun H => f76.j3 Q i_15 all_14 first_11'' I1 least_13 H)
def f76.l1 (Q : Post) (v4 : Value) (s_1 : Value) (rule_2 : Value) (I1 : St [11, 12, 13, 14, 15] → Heap → Prop) (first_11 : Value) (last_12 : Value) (least_13 : Value) (all_14 : Value) (i_15 : Value) (H : Heap) : Prop :=
  W.len v4 H fun v7 H =>
  W.bin .lss i_15 v7 H fun v8 H =>
  W.cond v8 H
  (fun H => W.indexAddr 2 v4 i_15 H fun v9 H =>
   W.getN 2 v9 H fun v10 H =>
   W.call Tryz.prog (.func (.func 125) #[] #[]) #[v10] H fun v11 H =>
   W.un .not v11 H fun v12 H =>
   W.cond v12 H
   (fun H => f76.j1 Q i_15 I1 first_11 last_12 least_13 all_14 H)
   (fun H => W.bin .lss first_11 (.int .i64 0) H fun v14 H =>
    W.cond v14 H
    (fun H => f76.j2 Q least_13 v4 i_15 all_14 I1 i_15 H)
    (fun H => f76.j2 Q least_13 v4 i_15 all_14 I1 first_11 H)))
  (fun H => W.bin .lss first_11 (.int .i64 0) H fun v29 H =>
   W.cond v29 H
   (fun H => Q (.tuple #[s_1, (.bool false), (.bool true)]) H)
   (fun H => W.bin .eql rule_2 (.int .i64 0) H fun v30 H =>
    W.cond v30 H
    (fun H => W.conv .u64 first_11 H fun v31 H =>
     W.bin .shl (.int .i64 1) v31 H fun v32 H =>
     W.bin .xor s_1 v32 H fun v33 H =>
     Q (.tuple #[v33, (.bool true), (.bool true)]) H)
    (fun H => W.bin .eql rule_2 (.int .i64 1) H fun v34 H =>
     W.cond v34 H
     (fun H => W.conv .u64 last_12 H fun v35 H =>
      W.bin .shl (.int .i64 1) v35 H fun v36 H =>
      W.bin .xor s_1 v36 H fun v37 H =>
      Q (.tuple #[v37, (.bool true), (.bool true)]) H)
     (fun H => W.bin .eql rule_2 (.int .i64 2) H fun v38 H =>
      W.cond v38 H
      (fun H => W.conv .u64 least_13 H fun v39 H =>
       W.bin .shl (.int .i64 1) v39 H fun v40 H =>
       W.bin .xor s_1 v40 H fun v41 H =>
       Q (.tuple #[v41, (.bool true), (.bool true)]) H)
      (fun H => W.bin .xor s_1 all_14 H fun v42 H =>
       Q (.tuple #[v42, (.bool true), (.bool true)]) H)))))
def f76.w (Q : Post) (p_0 : Value) (s_1 : Value) (rule_2 : Value) (H : Heap) : Prop :=
  W.box p_0 31 H fun v1 H =>
  W.getN 2 v1 H fun v2 H =>
  W.call Tryz.prog (.func (.func 37) #[] #[]) #[v2, s_1] H fun v3 H =>
  W.extract 0 v3 H fun v4 H =>
  W.extract 1 v3 H fun v5 H =>
  W.un .not v5 H fun v6 H =>
  W.cond v6 H
  (fun H => Q (.tuple #[s_1, (.bool false), (.bool false)]) H)
  (fun H => W.loop (S := St [11, 12, 13, 14, 15]) (fun I1 s H => f76.l1 Q v4 s_1 rule_2 I1 s.1 s.2.1 s.2.2.1 s.2.2.2.1 s.2.2.2.2.1 H) ((.int .i64 (-1)), (.int .i64 (-1)), (.int .i64 (-1)), (.int .i64 0), (.int .i64 0), ()) H)
theorem f76.enter {Q : Post} {p_0 : Value} {s_1 : Value} {rule_2 : Value} {H : Heap} (h : f76.w Q p_0 s_1 rule_2 H) : Runs Tryz.prog 76 #[p_0, s_1, rule_2] H Q :=
  fn_enter (ann := [(6, [11, 12, 13, 14, 15])]) (by kernel_rfl) Tryz.func76 rfl (by kernel_rfl) h (by kernel_rfl)

/- loop.example/g01343/spec.l08Run -/
def f36.l1 (Q : Post) (v1 : Value) (rule_2 : Value) (v7 : Value) (I1 : St [1, 9] → Heap → Prop) (s_1' : Value) (out_9 : Value) (H : Heap) : Prop :=
  W.lit 1 [(.int .i64 0)] 2 [(0, 1, s_1')] H fun v9 H =>
  W.append 1 2 out_9 v9 H fun v10 H =>
  W.getN 2 v1 H fun v11 H =>
  W.call Tryz.prog (.func (.func 76) #[] #[]) #[v11, s_1', rule_2] H fun v12 H =>
  W.extract 0 v12 H fun v13 H =>
  W.extract 1 v12 H fun v14 H =>
  W.extract 2 v12 H fun v15 H =>
  W.un .not v15 H fun v16 H =>
  W.cond v16 H
  (fun H => Q (.tuple #[v10, (.int .i64 1)]) H)
  (fun H => W.indexAddr 1 v7 s_1' H fun v17 H =>
   W.get v17 H fun v18 H =>
   W.cond v18 H
   (fun H => Q (.tuple #[v10, (.int .i64 2)]) H)
   (fun H => W.un .not v14 H fun v19 H =>
    W.cond v19 H
    (fun H => Q (.tuple #[v10, (.int .i64 0)]) H)
    (fun H => W.indexAddr 1 v7 s_1' H fun v20 H =>
     W.put v20 (.bool true) H fun _ H =>
     I1 (v13, v10, ()) H)))
def f36.w (Q : Post) (p_0 : Value) (s_1 : Value) (rule_2 : Value) (H : Heap) : Prop :=
  W.box p_0 31 H fun v1 H =>
  W.fieldAddr 1 v1 H fun v2 H =>
  W.get v2 H fun v3 H =>
  W.len v3 H fun v4 H =>
  W.conv .u64 v4 H fun v5 H =>
  W.bin .shl (.int .i64 1) v5 H fun v6 H =>
  W.make [(.bool false)] 4 v6 v6 H fun v7 H =>
  W.lit 0 [(.int .i64 0)] 2 [] H fun v8 H =>
  W.loop (S := St [1, 9]) (fun I1 s H => f36.l1 Q v1 rule_2 v7 I1 s.1 s.2.1 H) (s_1, v8, ()) H
theorem f36.enter {Q : Post} {p_0 : Value} {s_1 : Value} {rule_2 : Value} {H : Heap} (h : f36.w Q p_0 s_1 rule_2 H) : Runs Tryz.prog 36 #[p_0, s_1, rule_2] H Q :=
  fn_enter (ann := [(2, [1, 9])]) (by kernel_rfl) Tryz.func36 rfl (by kernel_rfl) h (by kernel_rfl)


theorem fn125 {H0 : Heap} {Q : Post} {a : Frac} (hQ : ∀ H', H0.Le H' → Q (.bool (decide (a.1 < 0))) H') : Runs Tryz.prog 125 #[.agg (frC a).toArray] H0 Q := by
  refine f125.enter (Wl.box (Loc.start H0) fun H b h => Wi.fieldAddr0 (Wl.get h rfl (Wi.lss ?_)))
  exact hQ _ h.le

theorem fn109 {H0 : Heap} {Q : Post} {a b : Frac} (h1 : I64 (a.1 * b.2)) (h2 : I64 (b.1 * a.2)) (hQ : ∀ H', H0.Le H' → Q (.bool (decide (a.1 * b.2 < b.1 * a.2))) H') : Runs Tryz.prog 109 #[.agg (frC a).toArray, .agg (frC b).toArray] H0 Q := by
  refine f109.enter ?_
  unfold f109.w
  refine Wl.box (Loc.start H0) fun H b1 h => Wl.box h fun H b2 h => Wi.fieldAddr0 (Wl.get h rfl (Wi.fieldAddr (Wl.get h rfl (Wi.mul h1 (Wi.fieldAddr0 (Wl.get h rfl (Wi.fieldAddr (Wl.get h rfl (Wi.mul h2 (Wi.lss ?_))))))))))
  exact hQ _ h.le

theorem fnR35 {H0 : Heap} {Q : Post} {cs : List Value} {p : Prob} {rule : Int} (hr : Has RProblem H0 cs p) (hQ : ∀ H', H0.Le H' → Q (.int .i64 (ruC p rule)) H') : Runs Tryz.prog 35 #[.agg cs.toArray, .int .i64 0, .int .i64 rule] H0 Q := by
  obtain ⟨u1, u2, rfl, r1, r2⟩ := hasProb hr
  refine f35.enter ?_
  unfold f35.w
  have h := ((Loc.start H0).lent r2).lent hr
  refine Wl.box h fun H b h => Wl.getA h rfl ?_
  obtain ⟨_, q⟩ := h.rd (cs := [u1, u2])
  refine Wi.call (fn27 q fun H l => ?_)
  have h := h.to l
  unfold ruC at hQ
  cases hp : isProb p with
  | false =>
    simp only [gw]
    have := hQ _ h.le
    simp only [hp] at this
    exact this
  | true =>
    simp only [gw]
    have hn := (PB.of hp).n5
    have h32 := pow5 hn
    refine Wi.fieldAddr (Wl.get h rfl (Wl.len h (Wi.convN (by omega) (Wi.shl1 (by omega) (Wi.sub (i64_pow hn) (Wi.call (fn44 ?_)))))))
    show W.un .not (.bool (setOk p.2.length 0)) _ _
    rw [setOk_zero]
    simp only [gw]
    refine Wi.call (fn44 ?_)
    cases hru : inR 0 3 rule with
    | false =>
      simp only [gw]
      have := hQ _ h.le
      simp only [hp, hru] at this
      exact this
    | true =>
      simp only [gw]
      have := hQ _ h.le
      simp only [hp, hru] at this
      exact this

theorem pointF_at {n : Nat} {rows : List (List Int)} {q : List Int} {i : Nat} (h : i < (pointF n rows q).length) : (pointF n rows q)[i] = frac ((solveL n rows q)[i]'(by simpa [pointF] using h)) (det n (mAt rows)) := by simp [pointF]

theorem fn76 {H0 : Heap} {Q : Post} {cs : List Value} {p : Prob} {n s : Nat} {rule : Int} (hr : Has RProblem H0 cs p) (hpb : PB n p) (hs : s < 2 ^ n) (hru : 0 ≤ rule ∧ rule ≤ 3)
    (h1 : det n (mAt (colL n p.1 s)) = 0 → ∀ H', H0.Le H' → Q (.tuple #[.int .i64 (s : Nat), .bool false, .bool false]) H')
    (h2 : det n (mAt (colL n p.1 s)) ≠ 0 → exV (ptOf n p s) rule = 0 → ∀ H', H0.Le H' → Q (.tuple #[.int .i64 (s : Nat), .bool false, .bool true]) H')
    (h3 : det n (mAt (colL n p.1 s)) ≠ 0 → exV (ptOf n p s) rule ≠ 0 → ∀ H', H0.Le H' → Q (.tuple #[.int .i64 (stp n p rule s : Nat), .bool true, .bool true]) H') :
    Runs Tryz.prog 76 #[.agg cs.toArray, .int .i64 (s : Nat), .int .i64 rule] H0 Q := by
  have hlen := hr.len
  have hn := hpb.n5
  have h32 := pow5 hn
  have h := (Loc.start H0).lent hr
  refine f76.enter (Wl.box h fun H b h => Wl.getA h hlen (Wi.call (fn37 (h.rd (cs := cs)) hpb (by omega) (fun hz H l => ?_) fun hnz H u f => ?_)))
  · simp only [gw]
    exact h1 hz _ (h.to l).le
  have h := h.add f
  simp only [gw]
  have hD := colL_leib s hn hpb.m
  have hS := solve_leib (n := n) (m := p.1) (q := p.2) s hn hpb.m hpb.q
  have hsl := solveL_len n (colL n p.1 s) p.2
  have hpl : (pointF n (colL n p.1 s) p.2).length = n := by simp [pointF, solveL_len]
  have hol := ptOf_len (n := n) (p := p) s
  -- the point's numbers, both ways
  have pt : ∀ i (hi : i < n), (ptOf n p s).getD i 0 = sgI (det n (mAt (colL n p.1 s))) * (solveL n (colL n p.1 s) p.2)[i]'(by omega) := fun i hi => by
    rw [atD (by omega)]
    simp [ptOf, pointL]
  have neg : ∀ i (hi : i < n), ((pointF n (colL n p.1 s) p.2)[i]'(by omega)).1 < 0 ↔ (ptOf n p s).getD i 0 < 0 := fun i hi => by
    rw [pointF_at, pt i hi]
    have := (frac_sign (x := (solveL n (colL n p.1 s) p.2)[i]'(by omega)) hnz).1
    omega
  have less : ∀ i j (hi : i < n) (hj : j < n), ((pointF n (colL n p.1 s) p.2)[i]'(by omega)).1 * ((pointF n (colL n p.1 s) p.2)[j]'(by omega)).2 < ((pointF n (colL n p.1 s) p.2)[j]'(by omega)).1 * ((pointF n (colL n p.1 s) p.2)[i]'(by omega)).2 ↔ (ptOf n p s).getD i 0 < (ptOf n p s).getD j 0 := fun i j hi hj => by
    rw [pointF_at, pointF_at, pt i hi, pt j hj]
    exact frac_less hnz
  have fit : ∀ i j (hi : i < n) (hj : j < n), I64 (((pointF n (colL n p.1 s) p.2)[i]'(by omega)).1 * ((pointF n (colL n p.1 s) p.2)[j]'(by omega)).2) := fun i j hi hj => by
    rw [pointF_at, pointF_at]
    have a1 := (frac_abs (x := (solveL n (colL n p.1 s) p.2)[i]'(by omega)) (d := det n (mAt (colL n p.1 s)))).1
    have a2 := (frac_abs (x := (solveL n (colL n p.1 s) p.2)[j]'(by omega)) (d := det n (mAt (colL n p.1 s)))).2
    exact i64A (mulA (Nat.le_trans a1 (hS _ (List.getElem_mem _))) (Nat.le_trans a2 hD)) (by decide)
  refine W.for_rule n (fun i st H => st = (.int .i64 (exF (ptOf n p s) i), .int .i64 (exL (ptOf n p s) i), .int .i64 (exM (ptOf n p s) i), .int .i64 (exA (ptOf n p s) i : Nat), .int .i64 (i : Nat), ()) ∧ Ab.Loc H0 [.data RFS [u] (pointF n (colL n p.1 s) p.2), .box b cs, .lent RProblem cs p] H) ⟨rfl, h⟩ ?_
  rintro i st H J hi ⟨rfl, h⟩ hJ
  have hinv := ex_inv (ptOf n p s) i
  refine Wl.len h (Wi.lssC (fun hlt => Wi.tru ?_) fun hge => Wi.fls ?_)
  · have hin : i < n := by omega
    have hI : I64 ((i : Int) + 1) := by unfold I64; omega
    have ha := exA_lt (ptOf n p s) i
    have hpi := pow5 (n := i) (by omega)
    refine Wl.atFr h (i := i) (by omega) fun _ _ => Wi.call (fn125 fun H l => ?_)
    have h := h.to l
    have hJ := fun H' h' => hJ (.int .i64 (exF (ptOf n p s) (i + 1)), .int .i64 (exL (ptOf n p s) (i + 1)), .int .i64 (exM (ptOf n p s) (i + 1)), .int .i64 (exA (ptOf n p s) (i + 1) : Nat), .int .i64 ((i + 1 : Nat) : Int), ()) H' hin ⟨rfl, h'⟩
    by_cases hneg : (ptOf n p s).getD i 0 < 0
    · rw [decide_eq_true ((neg i hin).2 hneg)]
      simp only [gw]
      simp only [exA, exF, exL, if_pos hneg] at hJ
      have part : ∀ f : Int, f = (if exF (ptOf n p s) i < 0 then (i : Int) else exF (ptOf n p s) i) → f76.j2 Q (.int .i64 (exM (ptOf n p s) i)) u (.int .i64 (i : Nat)) (.int .i64 (exA (ptOf n p s) i : Nat)) J (.int .i64 f) H := fun f hf => by
        subst hf
        unfold f76.j2
        have go : ∀ H' m, m = exM (ptOf n p s) (i + 1) → Ab.Loc H0 [.data RFS [u] (pointF n (colL n p.1 s) p.2), .box b cs, .lent RProblem cs p] H' → f76.j3 Q (.int .i64 (i : Nat)) (.int .i64 (exA (ptOf n p s) i : Nat)) (.int .i64 (if exF (ptOf n p s) i < 0 then (i : Int) else exF (ptOf n p s) i)) J (.int .i64 m) H' := fun H' m hm h' => by
          subst hm
          unfold f76.j3 f76.j1
          exact Wi.convN (by omega) (Wi.shl1 (by omega) (Wi.orN (by omega) (by omega) (Wi.add hI (hJ H' h'))))
        refine Wi.lssC (fun hm => ?_) fun hm => ?_
        · simp only [gw]
          exact go _ _ (by simp only [exM, if_pos hneg]; rw [if_pos (.inl hm)]) h
        · simp only [gw]
          have hM : 0 ≤ exM (ptOf n p s) i ∧ exM (ptOf n p s) i < i := by
            rcases hinv with ⟨_, _, _, h4, _⟩ | ⟨_, _, _, h4, _⟩
            · omega
            · exact h4
          obtain ⟨m, hmm⟩ : ∃ m : Nat, exM (ptOf n p s) i = m := ⟨(exM (ptOf n p s) i).toNat, by omega⟩
          have hmn : m < n := by omega
          rw [hmm]
          refine Wl.atFr h (i := i) (by omega) fun _ _ => Wl.atFr h (i := m) (by omega) fun _ _ => Wi.callQ (fn109 (fit i m hin hmn) (fit m i hmn hin) fun H' l => ⟨l, ?_⟩)
          have h := h.to l
          by_cases hlt2 : (ptOf n p s).getD i 0 < (ptOf n p s).getD m 0
          · rw [decide_eq_true ((less i m hin hmn).2 hlt2)]
            simp only [gw]
            exact go _ _ (by simp only [exM, if_pos hneg]; rw [hmm, Int.toNat_natCast, if_pos (.inr hlt2)]) h
          · rw [decide_eq_false fun g => hlt2 ((less i m hin hmn).1 g)]
            simp only [gw]
            exact go _ _ (by simp only [exM, if_pos hneg]; rw [hmm, Int.toNat_natCast, if_neg (by omega)]) h
      refine Wi.lssC (fun hlt => Wi.tru ?_) fun hge => Wi.fls ?_
      · exact part _ (by rw [if_pos hlt])
      · exact part _ (by rw [if_neg hge])
    · rw [decide_eq_false fun g => hneg ((neg i hin).1 g)]
      simp only [gw]
      simp only [exA, exF, exL, exM, if_neg hneg] at hJ
      unfold f76.j1
      exact Wi.add hI (hJ _ h)
  · have : i = n := by omega
    subst this
    have hlt := exA_lt (ptOf i p s) i
    have hz := exV_zero (l := ptOf i p s) (rule := rule)
    rw [hol] at hz
    have hp : ∀ m : Nat, m < i → 2 ^ m ≤ 32 := fun m hm => pow5 (by omega)
    rcases hinv with ⟨e1, e2, e3, e4, e5⟩ | ⟨e1, e2, e3, e4, e5⟩
    · refine Wi.lssC (fun _ => Wi.tru ?_) fun g => by omega
      exact h2 hnz (hz.2 e1) _ h.le
    · refine Wi.lssC (fun g => by omega) fun _ => Wi.fls ?_
      have h3 := h3 hnz (fun g => e1 (hz.1 g))
      have ev : exV (ptOf i p s) rule = if rule = 3 then exA (ptOf i p s) i else if rule = 0 then 2 ^ (exF (ptOf i p s) i).toNat else if rule = 1 then 2 ^ (exL (ptOf i p s) i).toNat else 2 ^ (exM (ptOf i p s) i).toNat := by
        unfold exV
        rw [hol, if_neg e1]
      unfold stp at h3
      rw [ev] at h3
      obtain ⟨a1, ha1⟩ : ∃ m : Nat, exF (ptOf i p s) i = m := ⟨(exF (ptOf i p s) i).toNat, by omega⟩
      obtain ⟨a2, ha2⟩ : ∃ m : Nat, exL (ptOf i p s) i = m := ⟨(exL (ptOf i p s) i).toNat, by omega⟩
      obtain ⟨a3, ha3⟩ : ∃ m : Nat, exM (ptOf i p s) i = m := ⟨(exM (ptOf i p s) i).toNat, by omega⟩
      rw [ha1, ha2, ha3] at h3
      rw [ha1, ha2, ha3]
      simp only [Int.toNat_natCast] at h3
      have p1 := hp a1 (by omega)
      have p2 := hp a2 (by omega)
      have p3 := hp a3 (by omega)
      refine Wi.eqlC (fun g => Wi.tru ?_) fun g0 => Wi.fls (Wi.eqlC (fun g => Wi.tru ?_) fun g1 => Wi.fls (Wi.eqlC (fun g => Wi.tru ?_) fun g2 => Wi.fls ?_))
      · rw [if_neg (by omega), if_pos g] at h3
        exact Wi.convN (by omega) (Wi.shl1 (by omega) (Wi.xorN (by omega) (by omega) (h3 _ h.le)))
      · rw [if_neg (by omega), if_neg g0, if_pos g] at h3
        exact Wi.convN (by omega) (Wi.shl1 (by omega) (Wi.xorN (by omega) (by omega) (h3 _ h.le)))
      · rw [if_neg (by omega), if_neg g0, if_neg g1] at h3
        exact Wi.convN (by omega) (Wi.shl1 (by omega) (Wi.xorN (by omega) (by omega) (h3 _ h.le)))
      · rw [if_pos (by omega)] at h3
        exact Wi.xorN (by omega) (by omega) (h3 _ h.le)

theorem fn36 {H0 : Heap} {Q : Post} {cs : List Value} {p : Prob} {n s0 : Nat} {rule : Int} (hr : Has RProblem H0 cs p) (hpb : PB n p) (hs : s0 < 2 ^ n) (hru : 0 ≤ rule ∧ rule ≤ 3)
    (hQ : ∀ k e, RunEnd n p rule s0 k e → ∀ H' u, Fresh RS H0 [u] (setsL ((List.range (k + 1)).map (ss n p rule s0))) H' → Q (.tuple #[u, .int .i64 e]) H') : Runs Tryz.prog 36 #[.agg cs.toArray, .int .i64 (s0 : Nat), .int .i64 rule] H0 Q := by
  obtain ⟨u1, u2, rfl, r1, r2⟩ := hasProb hr
  have hn := hpb.n5
  have h32 := pow5 hn
  have hql := hpb.ql
  have h := ((Loc.start H0).lent r2).lent hr
  refine f36.enter (Wl.box h fun H b h => Wi.fieldAddr (Wl.get h rfl (Wl.len h (Wi.convN (by omega) (Wi.shl1 (by omega) ?_)))))
  rw [hql]
  have hss := fun k => ss_lt (rule := rule) (p := p) hs k
  have hshort := fun k (hj : ∀ j, j ≤ k → cls n p rule s0 j = none) => run_short hs hj
  generalize hN : 2 ^ n = N at *
  refine Wl.make (r := Rd.bool) (z := false) (fun _ => ⟨rfl, rfl⟩) h (by omega) (by decide) fun H met h => ?_
  have h := h.asData (i := 0) rfl
  have e0 : List.replicate N false = (List.range N).map fun j => decide (j ∈ (List.range 0).map (ss n p rule s0)) := by
    apply List.ext_getElem <;> simp
  rw [e0] at h
  refine Wl.lit0 (ty := 2) Rd.int rfl h fun H u h => ?_
  refine W.for_rule N (fun k st H => ∃ u, st = (.int .i64 (ss n p rule s0 k : Nat), u, ()) ∧ Ab.Loc H0 [.grow Rd.int 2 u (setsL ((List.range k).map (ss n p rule s0))), .data (Rd.slice Rd.bool) [met] ((List.range N).map fun j => decide (j ∈ (List.range k).map (ss n p rule s0))), .box b [u1, u2], .lent RProblem [u1, u2] p, .lent RS [u2] p.2] H ∧ ∀ j, j < k → cls n p rule s0 j = none) ⟨_, rfl, h, fun j hj => by omega⟩ ?_
  rintro k st H J hk ⟨u, rfl, h, hcls⟩ hJ
  have hsk := hss k
  refine Wl.pushP (r := Rd.int) (x := (ss n p rule s0 k : Int)) rfl rfl rfl (fun _ => ⟨rfl, rfl, by unfold I64; omega⟩) h (by simp; omega) fun H u' h => ?_
  have h : Ab.Loc H0 [.grow Rd.int 2 u' (setsL ((List.range (k + 1)).map (ss n p rule s0))), .data (Rd.slice Rd.bool) [met] ((List.range N).map fun j => decide (j ∈ (List.range k).map (ss n p rule s0))), .box b [u1, u2], .lent RProblem [u1, u2] p, .lent RS [u2] p.2] H := by
    rw [← setsL_push]; exact h
  have fin : ∀ e H', cls n p rule s0 k = some e → Ab.Loc H0 [.grow Rd.int 2 u' (setsL ((List.range (k + 1)).map (ss n p rule s0))), .data (Rd.slice Rd.bool) [met] ((List.range N).map fun j => decide (j ∈ (List.range k).map (ss n p rule s0))), .box b [u1, u2], .lent RProblem [u1, u2] p, .lent RS [u2] p.2] H' → Q (.tuple #[u', .int .i64 e]) H' := fun e H' hc h => hQ k e ⟨hcls, hc⟩ _ _ ((h.asData (i := 0) rfl).ret (i := 0) rfl)
  have hmet : ss n p rule s0 k < ((List.range N).map fun j => decide (j ∈ (List.range k).map (ss n p rule s0))).length := by simpa using hsk
  have mget : ((List.range N).map fun j => decide (j ∈ (List.range k).map (ss n p rule s0)))[ss n p rule s0 k] = decide (ss n p rule s0 k ∈ (List.range k).map (ss n p rule s0)) := by simp
  refine Wl.getA h rfl (Wi.call (fn76 (h.rd (cs := [u1, u2])) hpb (by rw [hN]; exact hsk) hru (fun hz H l => ?_) (fun hnz hv H l => ?_) fun hnz hv H l => ?_))
  · simp only [gw]
    exact fin 1 _ (by unfold cls; rw [if_pos hz]) (h.to l)
  · have h := h.to l
    simp only [gw]
    refine Wl.atBoolH (h.rd (cs := [met])) hmet ?_
    rw [mget]
    by_cases hm : ss n p rule s0 k ∈ (List.range k).map (ss n p rule s0)
    · rw [decide_eq_true hm]
      simp only [gw]
      exact fin 2 _ (by unfold cls; rw [if_neg hnz, if_pos hm]) h
    · rw [decide_eq_false hm]
      simp only [gw]
      exact fin 0 _ (by unfold cls; rw [if_neg hnz, if_neg hm]; unfold ptOf at hv ⊢; rw [if_pos hv]) h
  · have h := h.to l
    simp only [gw]
    refine Wl.atBoolH (h.rd (cs := [met])) hmet ?_
    rw [mget]
    by_cases hm : ss n p rule s0 k ∈ (List.range k).map (ss n p rule s0)
    · rw [decide_eq_true hm]
      simp only [gw]
      exact fin 2 _ (by unfold cls; rw [if_neg hnz, if_pos hm]) h
    · rw [decide_eq_false hm]
      simp only [gw]
      have hc : cls n p rule s0 k = none := by unfold cls; rw [if_neg hnz, if_neg hm]; unfold ptOf at hv ⊢; rw [if_neg hv]
      have hcls' : ∀ j, j < k + 1 → cls n p rule s0 j = none := fun j hj => by
        by_cases e : j = k
        · subst e; exact hc
        · exact hcls j (by omega)
      have hk2 := hshort k fun j hj => hcls' j (by omega)
      refine Wl.setBool h hmet fun H h => hJ _ _ hk2 ⟨u', rfl, ?_, hcls'⟩
      have e : ((List.range N).map fun j => decide (j ∈ (List.range k).map (ss n p rule s0))).set (ss n p rule s0 k) true = (List.range N).map fun j => decide (j ∈ (List.range (k + 1)).map (ss n p rule s0)) := by
        apply List.ext_getElem
        · simp
        · intro j h1 h2
          rw [List.getElem_set]
          simp only [List.getElem_map, List.getElem_range]
          rw [List.range_succ, List.map_append]
          by_cases g : ss n p rule s0 k = j
          · subst g; simp
          · rw [if_neg g]
            congr 1
            simp only [List.mem_append, List.map_cons, List.map_nil, List.mem_singleton]
            exact propext ⟨.inl, fun h => h.resolve_right fun e => g e.symm⟩
      rw [e] at h
      exact h

end Go.Proofs.YtdmgomeogedjgaaGreat

/-! Where a run ends. No condition. -/
namespace Go.Proofs.YtdmgomeogedjgaaGreat
open Go.Ab

/-- Where a run ends, and how. -/
noncomputable def runOf (n : Nat) (p : Prob) (rule : Int) (s0 : Nat) : Nat × Int := open Classical in
  if h : ∃ k e, RunEnd n p rule s0 k e then (Classical.choose h, Classical.choose (Classical.choose_spec h)) else (0, 0)

theorem runOf_eq {n : Nat} {p : Prob} {rule : Int} {s0 k : Nat} {e : Int} (h : RunEnd n p rule s0 k e) : runOf n p rule s0 = (k, e) := by
  have hex : ∃ k e, RunEnd n p rule s0 k e := ⟨k, e, h⟩
  unfold runOf
  rw [dif_pos hex]
  have := run_one (Classical.choose_spec (Classical.choose_spec hex)) h
  exact Prod.ext this.1 this.2

end Go.Proofs.YtdmgomeogedjgaaGreat
