/- One more of a range. No condition. -/
import Derived.Test.YtbcfknboheghkaaGreatGAA
import Derived.Test.YtbcfknboheghkaaGreatGLI
import Derived.Test.YtbcfknboheghkaaGreatGBB
import Derived.Test.YtbcfknboheghkaaGreatGGM
import Derived.Test.YtbcfknboheghkaaGreatGRC
namespace Go.Proofs.YtbcfknboheghkaaGreat
open Go.Ab

theorem range_push {α : Type} {k : Nat} {f : Nat → α} {x : α} (h : f k = x) : (List.range k).map f ++ [x] = (List.range (k + 1)).map f := by
  rw [List.range_succ, List.map_append]
  simp [h]

end Go.Proofs.YtbcfknboheghkaaGreat
/-! Contracts of the reference's tables. No condition. -/
namespace Go.Proofs.YtbcfknboheghkaaGreat
open Go.Ab

/- loop.example/g01343/spec.l05Begin -/
/- loop.example/g01343/spec.l05Pivot -/
/- loop.example/g01343/spec.l05Key -/
/- loop.example/g01343/spec.l05Row -/
/- loop.example/g01343/spec.l05Partner -/
section
variable {H0 : Heap} {Q : Post} {n : Nat} {u w : Value} {d : Int} {rows : List (List Int)} {bas : List Int}

end

end Go.Proofs.YtbcfknboheghkaaGreat

/-! The contract of the reference's mixes. No condition. -/
namespace Go.Proofs.YtbcfknboheghkaaGreat
open Go.Ab

/- loop.example/g01343/spec.l07Mixes -/
def f64.j1 (Q : Post) (i_9 : Value) (I1 : St [6, 7, 9] → Heap → Prop) (first_6' : Value) (second_7' : Value) (H : Heap) : Prop :=
  W.bin .add i_9 (.int .i64 1) H fun v8 H =>
  I1 (first_6', second_7', v8, ()) H
def f64.j2 (Q : Post) (list_0 : Value) (i_10 : Value) (out_8 : Value) (I2 : St [8, 10] → Heap → Prop) (den_11 : Value) (H : Heap) : Prop :=
  W.indexAddr 1 list_0 i_10 H fun v15 H =>
  W.get v15 H fun v16 H =>
  W.call Tryz.prog (.func (.func 102) #[] #[]) #[v16, den_11] H fun v17 H =>
  W.call Tryz.prog (.func (.func 101) #[] #[]) #[v17] H fun v18 H =>
  W.extract 0 v18 H fun v19 H =>
  W.extract 1 v18 H fun v20 H =>
  W.new [(.int .i64 0), (.int .i64 0)] 39 H fun v21 H =>
  W.putN 2 v21 v19 H fun _ H =>
  W.bin .neq v20 (.int .i64 0) H fun v22 H =>
  W.cond v22 H
  (fun H => Q (.tuple #[(.slice none 0 0), v20]) H)
  (fun H => W.getN 2 v21 H fun v23 H =>
   W.lit 1 [(.int .i64 0), (.int .i64 0)] 39 [(0, 2, v23)] H fun v24 H =>
   W.append 2 39 out_8 v24 H fun v25 H =>
   W.bin .add i_10 (.int .i64 1) H fun v26 H =>
   I2 (v25, v26, ()) H)
def f64.l2 (Q : Post) (list_0 : Value) (k_1 : Value) (first_6 : Value) (second_7 : Value) (I2 : St [8, 10] → Heap → Prop) (out_8 : Value) (i_10 : Value) (H : Heap) : Prop :=
  W.len list_0 H fun v12 H =>
  W.bin .lss i_10 v12 H fun v13 H =>
  W.cond v13 H
  (fun H => W.bin .lss i_10 k_1 H fun v14 H =>
   W.cond v14 H
   (fun H => f64.j2 Q list_0 i_10 out_8 I2 first_6 H)
   (fun H => f64.j2 Q list_0 i_10 out_8 I2 second_7 H))
  (fun H => Q (.tuple #[out_8, (.int .i64 0)]) H)
def f64.l1 (Q : Post) (list_0 : Value) (k_1 : Value) (v1 : Value) (I1 : St [6, 7, 9] → Heap → Prop) (first_6 : Value) (second_7 : Value) (i_9 : Value) (H : Heap) : Prop :=
  W.len list_0 H fun v2 H =>
  W.bin .lss i_9 v2 H fun v3 H =>
  W.cond v3 H
  (fun H => W.bin .lss i_9 k_1 H fun v4 H =>
   W.cond v4 H
   (fun H => W.indexAddr 1 list_0 i_9 H fun v5 H =>
    W.get v5 H fun v6 H =>
    W.bin .add first_6 v6 H fun v7 H =>
    f64.j1 Q i_9 I1 v7 second_7 H)
   (fun H => W.indexAddr 1 list_0 i_9 H fun v9 H =>
    W.get v9 H fun v10 H =>
    W.bin .add second_7 v10 H fun v11 H =>
    f64.j1 Q i_9 I1 first_6 v11 H))
  (fun H => W.loop (S := St [8, 10]) (fun I2 s H => f64.l2 Q list_0 k_1 first_6 second_7 I2 s.1 s.2.1 H) (v1, (.int .i64 0), ()) H)
def f64.w (Q : Post) (list_0 : Value) (k_1 : Value) (H : Heap) : Prop :=
  W.lit 0 [(.int .i64 0), (.int .i64 0)] 39 [] H fun v1 H =>
  W.loop (S := St [6, 7, 9]) (fun I1 s H => f64.l1 Q list_0 k_1 v1 I1 s.1 s.2.1 s.2.2.1 H) ((.int .i64 0), (.int .i64 0), (.int .i64 0), ()) H
theorem f64.enter {Q : Post} {list_0 : Value} {k_1 : Value} {H : Heap} (h : f64.w Q list_0 k_1 H) : Runs Tryz.prog 64 #[list_0, k_1] H Q :=
  fn_enter (ann := [(3, [6, 7, 9]), (9, [8, 10])]) (by kernel_rfl) Tryz.func64 rfl (by kernel_rfl) h (by kernel_rfl)


theorem told_frac3 {H0 : Heap} {Q : Post} {n d : Int} (hQ : ∀ H', H0.Le H' → Q (.tuple #[.agg (frC (fracT n d).1).toArray, .int .i64 (fracT n d).2]) H') : Runs Tryz.prog 101 #[.agg (frC (frac n d)).toArray] H0 Q := fn101 hQ

theorem frAll_full2 {l : List Int} {d : Int} (h : (frAll l d).2 = 0) : (frAll l d).1 = l.map fun n => (fracT n d).1 := by
  unfold frAll at h ⊢
  split
  · rfl
  · rename_i g
    rw [if_neg g] at h
    cases h

theorem mixV_full {k : Nat} {z : List Int} (h : (mixV k z).2 = 0) : (mixV k z).1.length = z.length := by
  unfold mixV at h ⊢
  split
  · rename_i g
    rw [frAll_full2 g.1, frAll_full2 g.2]
    simp
    omega
  · rename_i g
    rw [if_neg g] at h
    cases h

theorem sum_drop_step {l : List Int} {i k : Nat} (h : i < l.length) (hk : k ≤ i) : ((l.take (i + 1)).drop k).sum = ((l.take i).drop k).sum + l[i] := by
  rw [List.take_succ_eq_append_getElem h, List.drop_append_of_le_length (by simp; omega), List.sum_append]
  simp

theorem fnG64 {H0 : Heap} {Q : Post} {v : Value} {z : List Int} {k : Nat} (hr : Has RS H0 [v] z) (hl : z.length ≤ 5) (hk : k ≤ z.length) (hza : ∀ x ∈ z, x.natAbs ≤ 1920000000)
    (h1 : (z.take k).sum ≠ 0) (h2 : (z.drop k).sum ≠ 0) (hQ : ∀ H' u, FreshG RFrac 39 H0 u (mixV k z).1 H' → Q (.tuple #[u, .int .i64 (mixV k z).2]) H') : Runs Tryz.prog 64 #[v, .int .i64 (k : Nat)] H0 Q := by
  have tsum : ∀ l : List Int, (∀ x ∈ l, x ∈ z) → l.length ≤ 5 → l.sum.natAbs ≤ 9600000000 := fun l hm hl => sum5 hl fun x hx => hza x (hm x hx)
  have ts := tsum (z.take k) (fun x hx => List.mem_of_mem_take hx) (by simp; omega)
  have ds := tsum (z.drop k) (fun x hx => List.mem_of_mem_drop hx) (by simp; omega)
  refine f64.enter ?_
  unfold f64.w
  refine Wl.lit0 (ty := 39) RFrac rfl ((Loc.start H0).lent hr) fun H v1 h => ?_
  refine W.for_rule z.length (fun i st H' => H' = H ∧ st = (.int .i64 (z.take (min i k)).sum, .int .i64 ((z.take i).drop k).sum, .int .i64 (i : Nat), ())) ⟨rfl, by simp; rfl⟩ ?_
  rintro i st H' J hi ⟨rfl, rfl⟩ hJ
  refine Wl.len h (Wi.lssC (fun hlt => Wi.tru ?_) fun hge => Wi.fls ?_)
  · have hix : i < z.length := by omega
    have hI : I64 ((i : Int) + 1) := by unfold I64; omega
    refine Wi.lssC (fun hlo => Wi.tru ?_) fun hhi => Wi.fls ?_
    · have hik : i < k := by omega
      have e1 := sum_step hix
      have b1 := tsum (z.take (i + 1)) (fun x hx => List.mem_of_mem_take hx) (by simp; omega)
      have em : min i k = i := by omega
      have em2 : min (i + 1) k = i + 1 := by omega
      have ed : (z.take (i + 1)).drop k = (z.take i).drop k := by
        rw [List.drop_of_length_le (by simp; omega), List.drop_of_length_le (by simp; omega)]
      rw [em]
      refine Wl.atInt h hix fun _ => Wi.add (by rw [← e1]; unfold I64; omega) ?_
      unfold f64.j1
      exact Wi.add hI (hJ _ _ hix ⟨rfl, by rw [em2, ed, e1]; rfl⟩)
    · have hik : k ≤ i := by omega
      have e1 := sum_drop_step hix hik
      have b1 := tsum ((z.take (i + 1)).drop k) (fun x hx => List.mem_of_mem_take (List.mem_of_mem_drop hx)) (by simp; omega)
      have em : min (i + 1) k = min i k := by omega
      refine Wl.atInt h hix fun _ => Wi.add (by rw [← e1]; unfold I64; omega) ?_
      unfold f64.j1
      exact Wi.add hI (hJ _ _ hix ⟨rfl, by rw [em, e1]; rfl⟩)
  have hie : i = z.length := by omega
  subst hie
  rw [show min z.length k = k by omega, List.take_length]
  generalize hs1 : (z.take k).sum = s1 at *
  generalize hs2 : (z.drop k).sum = s2 at *
  refine W.for_rule z.length (fun i st H => ∃ o, st = (o, .int .i64 (i : Nat), ()) ∧ Ab.Loc H0 [.grow RFrac 39 o ((List.range i).map fun j => (fracT (z.getD j 0) (if j < k then s1 else s2)).1), .lent RS [v] z] H ∧ ∀ j (hj : j < z.length), j < i → (fracT z[j] (if j < k then s1 else s2)).2 = 0) ⟨_, rfl, h, fun j _ hj => by omega⟩ ?_
  rintro i st H J hi ⟨o, rfl, h, hok⟩ hJ
  refine Wl.len h (Wi.lssC (fun hlt => Wi.tru ?_) fun hge => Wi.fls ?_)
  · have hix : i < z.length := by omega
    have hI : I64 ((i : Int) + 1) := by unfold I64; omega
    have hzi := hza _ (List.getElem_mem hix)
    have ezi : z.getD i 0 = z[i] := atD hix
    have j2 : ∀ d : Int, d = (if i < k then s1 else s2) → d.natAbs ≤ 9600000000 → d ≠ 0 → f64.j2 Q v (.int .i64 (i : Nat)) o J (.int .i64 d) H := fun d hd hda hd0 => by
      unfold f64.j2
      refine Wl.atInt h hix fun _ => Wi.call (fn102 (by unfold B64; omega) (by unfold B64; omega) hd0 fun H l => Wi.call (told_frac3 fun H2 l2 => ?_))
      have h := h.to (l.trans l2)
      simp only [gw]
      refine Wl.new h fun H b3 h => Wl.putA (vs := frC _) h rfl rfl rfl fun H h => Wi.neqC (fun hne => Wi.tru ?_) fun he => Wi.fls ?_
      · have hc := (fracT_code _ _).resolve_left hne
        have e : mixV k z = ([], 3) := by
          unfold mixV
          rw [if_neg]
          rintro ⟨g1, g2⟩
          by_cases hik : i < k
          · rw [if_pos hik] at hd
            have hil : i < (z.take k).length := by simp; omega
            have := (frAll_bad (l := z.take k) (d := d) hil (by rw [List.getElem_take]; exact hne)).1
            rw [hs1, ← hd, this] at g1
            cases g1
          · rw [if_neg hik] at hd
            have hil : i - k < (z.drop k).length := by simp; omega
            have := (frAll_bad (l := z.drop k) (d := d) hil (by
              rw [List.getElem_drop]
              have : k + (i - k) = i := by omega
              simp only [this]
              exact hne)).1
            rw [hs2, ← hd, this] at g2
            cases g2
        have := hQ H (.slice none 0 0) (by rw [e]; exact ⟨h.le, [], .inl ⟨rfl, rfl, rfl⟩, fun c hc => by cases hc⟩)
        rw [e] at this
        rw [hc]
        exact this
      · refine Wl.getA h rfl (Wl.pushP (r := RFrac) (x := (fracT z[i] d).1) rfl rfl rfl (frac_rel (fracT_i64 _ _)) h.tl (by simp; omega) fun H o' h => Wi.add hI (hJ _ _ hix ⟨o', rfl, ?_, fun j hj hji => ?_⟩))
        · rw [← range_push (f := fun j => (fracT (z.getD j 0) (if j < k then s1 else s2)).1) (k := i) (x := (fracT z[i] d).1) (by rw [ezi, hd])]
          exact h
        · by_cases e : j = i
          · subst e; rw [← hd]; exact he
          · exact hok j hj (by omega)
    refine Wi.lssC (fun hlo => Wi.tru ?_) fun hhi => Wi.fls ?_
    · exact j2 s1 (by rw [if_pos (by omega)]) ts h1
    · exact j2 s2 (by rw [if_neg (by omega)]) ds h2
  · have hie : i = z.length := by omega
    subst hie
    have f1 := frAll_ok (l := z.take k) (d := s1) fun j hj => by
      have hjz : j < z.length := by simp at hj; omega
      have hjk : j < k := by simp at hj; omega
      have := hok j hjz hjz
      rw [if_pos hjk] at this
      rw [List.getElem_take]
      exact this
    have f2 := frAll_ok (l := z.drop k) (d := s2) fun j hj => by
      have hjz : k + j < z.length := by simp at hj; omega
      have := hok (k + j) hjz hjz
      rw [if_neg (by omega)] at this
      rw [List.getElem_drop]
      exact this
    have e : mixV k z = ((List.range z.length).map (fun j => (fracT (z.getD j 0) (if j < k then s1 else s2)).1), 0) := by
      unfold mixV
      rw [hs1, hs2, f1, f2, if_pos ⟨rfl, rfl⟩]
      congr 1
      apply List.ext_getElem
      · simp; omega
      · intro j h3 h4
        have hjz : j < z.length := by simpa using h4
        simp only [List.getElem_map, List.getElem_range]
        rw [atD hjz]
        by_cases hjk : j < k
        · rw [List.getElem_append_left (by simp; omega), if_pos hjk]
          simp
        · rw [List.getElem_append_right (by simp; omega), if_neg hjk]
          have : k + (j - k) = j := by omega
          simp [Nat.min_eq_left hk, this]
    have := hQ H o (by rw [e]; exact h.retGG (i := 0) rfl)
    rw [e] at this
    exact this

end Go.Proofs.YtbcfknboheghkaaGreat

/-! The contract of the reference's LemkeHowson. No condition. -/
namespace Go.Proofs.YtbcfknboheghkaaGreat
open Go.Ab

/- loop.example/g01343/spec.LemkeHowson -/
end Go.Proofs.YtbcfknboheghkaaGreat
