/- The contracts of SolveByRule, the program's and the reference's. No condition. -/
import Derived.Test.YtdmgomeogedjgaaGreatGSR
import Derived.Test.YtdmgomeogedjgaaGreatTF
import Derived.Test.YtdmgomeogedjgaaGreatONL
import Derived.Test.YtdmgomeogedjgaaGreatQ4
namespace Go.Proofs.YtdmgomeogedjgaaGreat
open Go.Ab

/- loop.example/g01343/impl.SolutionOfSet -/
def f22.w (Q : Post) (p_0 : Value) (s_1 : Value) (H : Heap) : Prop :=
  W.box p_0 31 H fun v1 H =>
  W.getN 2 v1 H fun v2 H =>
  W.call Tryz.prog (.func (.func 48) #[] #[]) #[v2, s_1] H fun v3 H =>
  W.bin .neq v3 (.int .i64 0) H fun v4 H =>
  W.cond v4 H
  (fun H => Q (.tuple #[(.slice none 0 0), v3]) H)
  (fun H => W.getN 2 v1 H fun v5 H =>
   W.call Tryz.prog (.func (.func 49) #[] #[]) #[v5, s_1] H fun v6 H =>
   W.extract 0 v6 H fun v7 H =>
   W.extract 1 v6 H fun v8 H =>
   W.extract 2 v6 H fun v9 H =>
   W.un .not v9 H fun v10 H =>
   W.guarded v10 false (fun H k => k v7 H) H fun v11 H =>
   W.guarded v10 false (fun H k => W.call Tryz.prog (.func (.func 47) #[] #[]) #[v11] H k) H fun v12 H =>
   W.guarded v10 false (fun H k => W.un .not v12 H k) H fun v13 H =>
   W.pick v10 (.bool true) v13 H fun v14 H =>
   W.cond v14 H
   (fun H => Q (.tuple #[(.slice none 0 0), (.int .i64 5)]) H)
   (fun H => W.call Tryz.prog (.func (.func 51) #[] #[]) #[v7, s_1] H fun v15 H =>
    W.call Tryz.prog (.func (.func 50) #[] #[]) #[v15, v8] H fun v16 H =>
    W.extract 0 v16 H fun v17 H =>
    W.extract 1 v16 H fun v18 H =>
    Q (.tuple #[v17, v18]) H))
theorem f22.enter {Q : Post} {p_0 : Value} {s_1 : Value} {H : Heap} (h : f22.w Q p_0 s_1 H) : Runs Tryz.prog 22 #[p_0, s_1] H Q :=
  fn_enter (ann := []) (by kernel_rfl) Tryz.func22 rfl (by kernel_rfl) h (by kernel_rfl)

/- loop.example/g01343/impl.SolveByRule -/
def f12.w (Q : Post) (p_0 : Value) (rule_1 : Value) (H : Heap) : Prop :=
  W.box p_0 31 H fun v1 H =>
  W.getN 2 v1 H fun v2 H =>
  W.call Tryz.prog (.func (.func 33) #[] #[]) #[v2, (.int .i64 0), rule_1] H fun v3 H =>
  W.bin .neq v3 (.int .i64 0) H fun v4 H =>
  W.cond v4 H
  (fun H => Q (.tuple #[(.slice none 0 0), v3]) H)
  (fun H => W.getN 2 v1 H fun v5 H =>
   W.call Tryz.prog (.func (.func 34) #[] #[]) #[v5, (.int .i64 0), rule_1] H fun v6 H =>
   W.extract 0 v6 H fun v7 H =>
   W.extract 1 v6 H fun v8 H =>
   W.bin .neq v8 (.int .i64 0) H fun v9 H =>
   W.cond v9 H
   (fun H => Q (.tuple #[(.slice none 0 0), (.int .i64 4)]) H)
   (fun H => W.getN 2 v1 H fun v10 H =>
    W.len v7 H fun v11 H =>
    W.bin .sub v11 (.int .i64 1) H fun v12 H =>
    W.indexAddr 1 v7 v12 H fun v13 H =>
    W.get v13 H fun v14 H =>
    W.callQ Tryz.prog (.func (.func 22) #[] #[]) #[v10, v14] H fun v15 H =>
    W.extract 0 v15 H fun v16 H =>
    W.extract 1 v15 H fun v17 H =>
    Q (.tuple #[v16, v17]) H))
theorem f12.enter {Q : Post} {p_0 : Value} {rule_1 : Value} {H : Heap} (h : f12.w Q p_0 rule_1 H) : Runs Tryz.prog 12 #[p_0, rule_1] H Q :=
  fn_enter (ann := []) (by kernel_rfl) Tryz.func12 rfl (by kernel_rfl) h (by kernel_rfl)

/- loop.example/g01343/spec.SolveByRule -/
def f13.j1 (Q : Post) (i_12 : Value) (I1 : St [12] → Heap → Prop) (H : Heap) : Prop :=
  W.bin .add i_12 (.int .i64 1) H fun v26 H =>
  I1 (v26, ()) H
def f13.l1 (Q : Post) (v16 : Value) (v13 : Value) (I1 : St [12] → Heap → Prop) (i_12 : Value) (H : Heap) : Prop :=
  W.len v16 H fun v18 H =>
  W.bin .lss i_12 v18 H fun v19 H =>
  W.cond v19 H
  (fun H => W.conv .u64 i_12 H fun v20 H =>
   W.bin .shr v13 v20 H fun v21 H =>
   W.bin .and v21 (.int .i64 1) H fun v22 H =>
   W.bin .eql v22 (.int .i64 0) H fun v23 H =>
   W.cond v23 H
   (fun H => W.build [(.int .i64 0), (.int .i64 0)] [(0, 1, (.int .i64 0)), (1, 1, (.int .i64 1))] H fun v24 H =>
    W.indexAddr 2 v16 i_12 H fun v25 H =>
    W.putN 2 v25 v24 H fun _ H =>
    f13.j1 Q i_12 I1 H)
   (fun H => f13.j1 Q i_12 I1 H))
  (fun H => W.call Tryz.prog (.func (.func 38) #[] #[]) #[v16] H fun v27 H =>
   W.extract 0 v27 H fun v28 H =>
   W.extract 1 v27 H fun v29 H =>
   Q (.tuple #[v28, v29]) H)
def f13.w (Q : Post) (p_0 : Value) (rule_1 : Value) (H : Heap) : Prop :=
  W.box p_0 31 H fun v1 H =>
  W.getN 2 v1 H fun v2 H =>
  W.call Tryz.prog (.func (.func 35) #[] #[]) #[v2, (.int .i64 0), rule_1] H fun v3 H =>
  W.bin .neq v3 (.int .i64 0) H fun v4 H =>
  W.cond v4 H
  (fun H => Q (.tuple #[(.slice none 0 0), v3]) H)
  (fun H => W.getN 2 v1 H fun v5 H =>
   W.call Tryz.prog (.func (.func 36) #[] #[]) #[v5, (.int .i64 0), rule_1] H fun v6 H =>
   W.extract 0 v6 H fun v7 H =>
   W.extract 1 v6 H fun v8 H =>
   W.bin .neq v8 (.int .i64 0) H fun v9 H =>
   W.cond v9 H
   (fun H => Q (.tuple #[(.slice none 0 0), (.int .i64 4)]) H)
   (fun H => W.len v7 H fun v10 H =>
    W.bin .sub v10 (.int .i64 1) H fun v11 H =>
    W.indexAddr 1 v7 v11 H fun v12 H =>
    W.get v12 H fun v13 H =>
    W.getN 2 v1 H fun v14 H =>
    W.call Tryz.prog (.func (.func 37) #[] #[]) #[v14, v13] H fun v15 H =>
    W.extract 0 v15 H fun v16 H =>
    W.extract 1 v15 H fun v17 H =>
    W.loop (S := St [12]) (fun I1 s H => f13.l1 Q v16 v13 I1 s.1 H) ((.int .i64 0), ()) H))
theorem f13.enter {Q : Post} {p_0 : Value} {rule_1 : Value} {H : Heap} (h : f13.w Q p_0 rule_1 H) : Runs Tryz.prog 13 #[p_0, rule_1] H Q :=
  fn_enter (ann := [(10, [12])]) (by kernel_rfl) Tryz.func13 rfl (by kernel_rfl) h (by kernel_rfl)


def solF (n : Nat) (p : Prob) (s : Nat) : List Frac := (List.range n).map fun i => if s.testBit i then frac ((solveL n (colL n p.1 s) p.2).getD i 0) (det n (mAt (colL n p.1 s))) else (0, 1)

theorem only_sol {n : Nat} {p : Prob} {s : Nat} (h : det n (mAt (colL n p.1 s)) ≠ 0) : (onlyL n (ptOf n p s) s).map (fun m => frac m ((det n (mAt (colL n p.1 s))).natAbs : Nat)) = solF n p s := by
  unfold onlyL solF
  rw [List.map_map]
  refine List.map_congr_left fun i hi => ?_
  have hin : i < n := by simpa using hi
  simp only [Function.comp]
  by_cases hb : s.testBit i = true
  · rw [if_pos hb, if_pos hb]
    have e : (ptOf n p s).getD i 0 = sgI (det n (mAt (colL n p.1 s))) * (solveL n (colL n p.1 s) p.2).getD i 0 := by
      have h1 := ptOf_len (n := n) (p := p) s
      have h2 := solveL_len n (colL n p.1 s) p.2
      rw [atD (by omega), atD (by omega)]
      simp [ptOf, pointL]
    rw [e, frac_scale h]
  · rw [if_neg hb, if_neg hb, frac_zero (by omega)]

theorem cls_zero {n : Nat} {p : Prob} {rule : Int} {s0 k : Nat} (h : cls n p rule s0 k = some 0) : det n (mAt (colL n p.1 (ss n p rule s0 k))) ≠ 0 ∧ ∀ x ∈ ptOf n p (ss n p rule s0 k), 0 ≤ x := by
  unfold cls at h
  by_cases hd : det n (mAt (colL n p.1 (ss n p rule s0 k))) = 0
  · rw [if_pos hd] at h; simp at h
  · rw [if_neg hd] at h
    by_cases hm : ss n p rule s0 k ∈ (List.range k).map (ss n p rule s0)
    · rw [if_pos hm] at h; simp at h
    · rw [if_neg hm] at h
      by_cases hz : exV (ptOf n p (ss n p rule s0 k)) rule = 0
      · exact ⟨hd, exA_none (exV_zero.1 hz)⟩
      · rw [if_neg hz] at h; cases h

theorem fn22 {H0 : Heap} {Q : Post} {cs : List Value} {p : Prob} {s : Nat} (hr : Has RProblem H0 cs p) (hp : isProb p = true) (hs : s < 2 ^ p.2.length) (hD : det p.2.length (mAt (colL p.2.length p.1 s)) ≠ 0) (hf : ∀ x ∈ ptOf p.2.length p s, 0 ≤ x)
    (hQ : ∀ H' u, Fresh RFS H0 [u] (tolF (solF p.2.length p s)).1 H' → Q (.tuple #[u, .int .i64 (tolF (solF p.2.length p s)).2]) H') : Runs Tryz.prog 22 #[.agg cs.toArray, .int .i64 (s : Nat)] H0 Q := by
  have hlen := hr.len
  have hpb := PB.of hp
  have hn := hpb.n5
  have h32 := pow5 hn
  have h := (Loc.start H0).lent hr
  have hset : setC p (s : Nat) = 0 := by
    unfold setC
    rw [if_pos hp, if_pos (inR_iff.2 ⟨by omega, by omega⟩)]
  refine f22.enter (Wl.box h fun H b h => Wl.getA h hlen (Wi.call (fn48 (h.rd (cs := cs)) fun H l => ?_)))
  have h := h.to l
  rw [hset]
  refine Wi.neqC (fun g => absurd rfl g) fun _ => Wi.fls (Wl.getA h hlen (Wi.call (fn49 (h.rd (cs := cs)) hpb (by omega) (fun g => absurd g hD) fun _ H w f => ?_)))
  have h := h.add f
  simp only [gw]
  refine Wi.call (fn47 (h.rd (cs := [w])) fun H t l ht => ?_)
  have h := h.to l
  have : t = true := ht.2 hf
  subst this
  simp only [gw]
  have hpl := ptOf_len (n := p.2.length) (p := p) s
  refine Wi.call (fn51 (h.rd (cs := [w])) hpl hn (by omega) fun H u f => ?_)
  have h := h.add f
  have hDa := colL_leib s hn hpb.m
  have hpa : ∀ x ∈ ptOf p.2.length p s, x.natAbs ≤ 1920000000 := fun x hx => by
    unfold ptOf pointL at hx
    obtain ⟨y, hy, rfl⟩ := List.mem_map.1 hx
    have h1 := solve_leib s hn hpb.m hpb.q y hy
    have h2 := mulA (sgI_abs (det p.2.length (mAt (colL p.2.length p.1 s)))) h1
    omega
  refine Wi.call (fn50 (h.rd (cs := [u])) (fun x hx => ?_) (by unfold B64; omega) (by omega) (by simp [onlyL]; omega) fun H z f => ?_)
  · obtain ⟨i, hi, rfl⟩ := List.mem_map.1 hx
    have hin : i < p.2.length := by simpa using hi
    unfold B64
    split
    · show ((ptOf p.2.length p s).getD i 0).natAbs < _
      rw [atD (by omega)]
      have := hpa _ (List.getElem_mem (show i < (ptOf p.2.length p s).length by omega))
      omega
    · decide
  · have h := h.add f
    simp only [gw]
    have e : frAll (onlyL p.2.length (pointL p.2.length (colL p.2.length p.1 s) p.2) s) ((det p.2.length (mAt (colL p.2.length p.1 s))).natAbs : Nat) = tolF (solF p.2.length p s) := frAll_tol (only_sol hD)
    rw [e] at h ⊢
    exact hQ _ _ (h.ret (i := 0) rfl)

noncomputable def srRes (p : Prob) (rule : Int) : List Frac × Int :=
  if ruC p rule = 0 then (if (runOf p.2.length p rule 0).2 = 0 then tolF (solF p.2.length p (ss p.2.length p rule 0 (runOf p.2.length p rule 0).1)) else ([], 4)) else ([], ruC p rule)

theorem setsL_last (f : Nat → Nat) (k : Nat) (h : k < (setsL ((List.range (k + 1)).map f)).length) : (setsL ((List.range (k + 1)).map f))[k] = (f k : Nat) := by simp [setsL]

theorem pow_pos2 (n : Nat) : 0 < 2 ^ n := Nat.pow_pos (by decide)

theorem fn12 {H0 : Heap} {Q : Post} {cs : List Value} {p : Prob} {rule : Int} (hr : Has RProblem H0 cs p) (_ : I64 rule) (_ : wProblem p ≤ 1048576)
    (hQ : ∀ H' u, Fresh RFS H0 [u] (srRes p rule).1 H' → Q (.tuple #[u, .int .i64 (srRes p rule).2]) H') : Runs Tryz.prog 12 #[.agg cs.toArray, .int .i64 rule] H0 Q := by
  have hlen := hr.len
  have hz : ∀ H c, H0.Le H → srRes p rule = ([], c) → Q (.tuple #[.slice none 0 0, .int .i64 c]) H := fun H c l e => by
    have := hQ H (.slice none 0 0) (by rw [e]; exact fresh_nil l)
    rw [e] at this
    exact this
  have h := (Loc.start H0).lent hr
  refine f12.enter (Wl.box h fun H b h => Wl.getA h hlen (Wi.call (fn33 (h.rd (cs := cs)) fun H l => ?_)))
  have h := h.to l
  refine Wi.neqC (fun hne => Wi.tru (hz _ _ h.le (by unfold srRes; rw [if_neg hne]))) fun he => Wi.fls ?_
  obtain ⟨hp, hru⟩ := ruC_eq he
  have hpb := PB.of hp
  have h32 := pow5 hpb.n5
  refine Wl.getA h hlen (Wi.call (fn34 (s0 := 0) (h.rd (cs := cs)) hpb (pow_pos2 _) hru fun k e hre H u f => ?_))
  have h := h.add f
  have hrun := runOf_eq hre
  simp only [gw]
  refine Wi.neqC (fun hne => Wi.tru (hz _ _ h.le (by unfold srRes; rw [if_pos he, hrun, if_neg hne]))) fun he2 => Wi.fls ?_
  subst he2
  obtain ⟨hD, hf⟩ := cls_zero hre.2
  have hss := ss_lt (rule := rule) (p := p) (pow_pos2 p.2.length) k
  have hll : (setsL ((List.range (k + 1)).map (ss p.2.length p rule 0))).length = k + 1 := by simp [setsL]
  have hk32 := run_short (rule := rule) (p := p) (n := p.2.length) (s0 := 0) (k := k - 1) (pow_pos2 _)
  have hkl : k ≤ 32 := by
    rcases Nat.eq_zero_or_pos k with h0 | h0
    · omega
    · have := hk32 fun j hj => hre.1 j (by omega)
      omega
  have hsr : srRes p rule = tolF (solF p.2.length p (ss p.2.length p rule 0 k)) := by
    unfold srRes
    rw [if_pos he, hrun, if_pos rfl]
  refine Wl.getA h hlen (Wl.len h ?_)
  rw [hll]
  refine Wi.sub (by unfold I64; omega) ?_
  rw [show ((k + 1 : Nat) : Int) - 1 = (k : Nat) by omega]
  refine Wl.atInt h (i := k) (by omega) fun _ => ?_
  rw [setsL_last]
  refine Wi.callQ (fn22 (h.rd (cs := cs)) hp hss hD hf fun H z f => ⟨f.le, ?_⟩)
  have h := h.add f
  simp only [gw]
  have := hQ H z (by rw [hsr]; exact h.ret (i := 0) rfl)
  rw [hsr] at this
  exact this

theorem solF_low {n : Nat} {p : Prob} {s : Nat} (hD : det n (mAt (colL n p.1 s)) ≠ 0) : ∀ a ∈ solF n p s, 1 ≤ a.2 ∧ Int.gcd a.1 a.2 = 1 := fun a ha => by
  obtain ⟨i, _, rfl⟩ := List.mem_map.1 ha
  split
  · have h1 := frac_pos (n := (solveL n (colL n p.1 s) p.2).getD i 0) hD
    exact ⟨by omega, frac_gcd hD⟩
  · exact ⟨Int.le_refl _, rfl⟩

theorem fn13 {H0 : Heap} {Q : Post} {cs : List Value} {p : Prob} {rule : Int} (hr : Has RProblem H0 cs p) (_ : I64 rule) (_ : wProblem p ≤ 1048576)
    (hQ : ∀ H' u, Fresh RFS H0 [u] (srRes p rule).1 H' → Q (.tuple #[u, .int .i64 (srRes p rule).2]) H') : Runs Tryz.prog 13 #[.agg cs.toArray, .int .i64 rule] H0 Q := by
  have hlen := hr.len
  have hz : ∀ H c, H0.Le H → srRes p rule = ([], c) → Q (.tuple #[.slice none 0 0, .int .i64 c]) H := fun H c l e => by
    have := hQ H (.slice none 0 0) (by rw [e]; exact fresh_nil l)
    rw [e] at this
    exact this
  have h := (Loc.start H0).lent hr
  refine f13.enter (Wl.box h fun H b h => Wl.getA h hlen (Wi.call (fnR35 (h.rd (cs := cs)) fun H l => ?_)))
  have h := h.to l
  refine Wi.neqC (fun hne => Wi.tru (hz _ _ h.le (by unfold srRes; rw [if_neg hne]))) fun he => Wi.fls ?_
  obtain ⟨hp, hru⟩ := ruC_eq he
  have hpb := PB.of hp
  have hn := hpb.n5
  have h32 := pow5 hn
  refine Wl.getA h hlen (Wi.call (fn36 (s0 := 0) (h.rd (cs := cs)) hpb (pow_pos2 _) hru fun k e hre H u f => ?_))
  have h := h.add f
  have hrun := runOf_eq hre
  simp only [gw]
  refine Wi.neqC (fun hne => Wi.tru (hz _ _ h.le (by unfold srRes; rw [if_pos he, hrun, if_neg hne]))) fun he2 => Wi.fls ?_
  subst he2
  obtain ⟨hD, hf⟩ := cls_zero hre.2
  have hss := ss_lt (rule := rule) (p := p) (pow_pos2 p.2.length) k
  have hll : (setsL ((List.range (k + 1)).map (ss p.2.length p rule 0))).length = k + 1 := by simp [setsL]
  have hk32 := run_short (rule := rule) (p := p) (n := p.2.length) (s0 := 0) (k := k - 1) (pow_pos2 _)
  have hkl : k ≤ 32 := by
    rcases Nat.eq_zero_or_pos k with h0 | h0
    · omega
    · have := hk32 fun j hj => hre.1 j (by omega)
      omega
  have hsr : srRes p rule = tolF (solF p.2.length p (ss p.2.length p rule 0 k)) := by
    unfold srRes
    rw [if_pos he, hrun, if_pos rfl]
  refine Wl.len h ?_
  rw [hll]
  refine Wi.sub (by unfold I64; omega) ?_
  rw [show ((k + 1 : Nat) : Int) - 1 = (k : Nat) by omega]
  refine Wl.atInt h (i := k) (by omega) fun hI0 => ?_
  rw [setsL_last]
  clear hI0
  generalize hs : ss p.2.length p rule 0 k = s at *
  refine Wl.getA h hlen (Wi.call (fn37 (h.rd (cs := cs)) hpb (by omega) (fun g => absurd g hD) fun _ H w f => ?_))
  have h := h.add f
  simp only [gw]
  generalize hnn : p.2.length = n at *
  have e0 : pointF n (colL n p.1 s) p.2 = (List.range n).map fun i => if i < 0 ∧ s.testBit i = false then (0, 1) else frac ((solveL n (colL n p.1 s) p.2).getD i 0) (det n (mAt (colL n p.1 s))) := by
    apply List.ext_getElem
    · simp [pointF, solveL_len]
    · intro j h1 h2
      rw [pointF_at]
      have : j < (solveL n (colL n p.1 s) p.2).length := by simpa [pointF] using h1
      simp [List.getD_eq_getElem?_getD, List.getElem?_eq_getElem this]
  rw [e0] at h
  refine W.for_rule n (fun x st H => st = (.int .i64 (x : Nat), ()) ∧ Ab.Loc H0 [.data RFS [w] ((List.range n).map fun i => if i < x ∧ s.testBit i = false then (0, 1) else frac ((solveL n (colL n p.1 s) p.2).getD i 0) (det n (mAt (colL n p.1 s))))] H) ⟨rfl, h.first 1⟩ ?_
  rintro x st H J hx ⟨rfl, h⟩ hJ
  have hI : I64 ((x : Int) + 1) := by unfold I64; omega
  refine Wl.len h ?_
  rw [show ((List.range n).map fun i => if i < x ∧ s.testBit i = false then ((0, 1) : Frac) else frac ((solveL n (colL n p.1 s) p.2).getD i 0) (det n (mAt (colL n p.1 s)))).length = n by simp]
  refine Wi.lssC (fun hlt => Wi.tru ?_) fun hge => Wi.fls ?_
  · have hxn : x < n := by omega
    refine Wi.convN (by omega) (Wi.shrN (by omega) (by omega) (Wi.and1 (Wi.eqlC (fun hz0 => Wi.tru ?_) fun hnz => Wi.fls ?_)))
    · have hb : s.testBit x = false := by
        cases hb : s.testBit x with
        | false => rfl
        | true => have := bit_iff.2 hb; omega
      refine Wi.build (cells := frC (0, 1)) rfl (Wl.setP (r := RFrac) (y := ((0, 1) : Frac)) rfl h (by simpa using hxn) (frac_rel ⟨by unfold I64; decide, by unfold I64; decide⟩) fun H h => ?_)
      unfold f13.j1
      refine Wi.add hI (hJ _ _ hxn ⟨rfl, ?_⟩)
      have e : ((List.range n).map fun i => if i < x ∧ s.testBit i = false then ((0, 1) : Frac) else frac ((solveL n (colL n p.1 s) p.2).getD i 0) (det n (mAt (colL n p.1 s)))).set x (0, 1) = (List.range n).map fun i => if i < x + 1 ∧ s.testBit i = false then ((0, 1) : Frac) else frac ((solveL n (colL n p.1 s) p.2).getD i 0) (det n (mAt (colL n p.1 s))) := by
        apply List.ext_getElem
        · simp
        · intro j h1 h2
          rw [List.getElem_set]
          simp only [List.getElem_map, List.getElem_range]
          by_cases g : x = j
          · subst g; simp [hb]
          · rw [if_neg g]
            by_cases g2 : j < x
            · simp [g2, show j < x + 1 by omega]
            · simp [g2, show ¬ j < x + 1 by omega]
      rw [e] at h
      exact h
    · have hb : s.testBit x = true := bit_iff.1 (by omega)
      unfold f13.j1
      refine Wi.add hI (hJ _ _ hxn ⟨rfl, ?_⟩)
      have e : ((List.range n).map fun i => if i < x ∧ s.testBit i = false then ((0, 1) : Frac) else frac ((solveL n (colL n p.1 s) p.2).getD i 0) (det n (mAt (colL n p.1 s)))) = (List.range n).map fun i => if i < x + 1 ∧ s.testBit i = false then ((0, 1) : Frac) else frac ((solveL n (colL n p.1 s) p.2).getD i 0) (det n (mAt (colL n p.1 s))) := List.map_congr_left fun j _ => by
        by_cases g2 : j < x
        · simp [g2, show j < x + 1 by omega]
        · by_cases g3 : j = x
          · subst g3; simp [hb]
          · simp [g2, show ¬ j < x + 1 by omega]
      rw [← e]
      exact h
  · have : x = n := by omega
    subst this
    have e : ((List.range x).map fun i => if i < x ∧ s.testBit i = false then ((0, 1) : Frac) else frac ((solveL x (colL x p.1 s) p.2).getD i 0) (det x (mAt (colL x p.1 s)))) = solF x p s := List.map_congr_left fun k hk => by
      have hk : k < x := by simpa using hk
      cases hb : s.testBit k <;> simp [hk]
    rw [e] at h
    refine Wi.call (fn38 (h.rd (cs := [w])) (solF_low hD) (fun ha => ?_) fun ha => ?_)
    · simp only [gw]
      have et : tolF (solF x p s) = (solF x p s, 0) := by unfold tolF; rw [if_pos ha]
      have := hQ H w (by rw [hsr, et]; exact h.ret (i := 0) rfl)
      rw [hsr, et] at this
      exact this
    · simp only [gw]
      exact hz _ _ h.le (by rw [hsr]; unfold tolF; rw [ha]; rfl)

end Go.Proofs.YtdmgomeogedjgaaGreat
