/- Lists of fractions within the limits, the program's and the reference's way. No condition. -/
import Derived.Test.YtdmgomeogedjgaaGreatGAB
import Derived.Test.YtdmgomeogedjgaaGreatZabG9
namespace Go.Proofs.YtdmgomeogedjgaaGreat
open Go.Ab

/- loop.example/g01343/spec.l08Told -/
def f38.l1 (Q : Post) (list_0 : Value) (I1 : St [4] → Heap → Prop) (i_4 : Value) (H : Heap) : Prop :=
  W.len list_0 H fun v1 H =>
  W.bin .lss i_4 v1 H fun v2 H =>
  W.cond v2 H
  (fun H => W.indexAddr 2 list_0 i_4 H fun v3 H =>
   W.fieldAddr 0 v3 H fun v4 H =>
   W.get v4 H fun v5 H =>
   W.call Tryz.prog (.func (.func 44) #[] #[]) #[v5, (.int .i64 (-1000000000)), (.int .i64 1000000000)] H fun v6 H =>
   W.un .not v6 H fun v7 H =>
   W.guarded v7 false (fun H k => k list_0 H) H fun v8 H =>
   W.guarded v7 false (fun H k => k i_4 H) H fun v9 H =>
   W.guarded v7 false (fun H k => W.indexAddr 2 v8 v9 H k) H fun v10 H =>
   W.guarded v7 false (fun H k => W.fieldAddr 1 v10 H k) H fun v11 H =>
   W.guarded v7 false (fun H k => W.get v11 H k) H fun v12 H =>
   W.guarded v7 false (fun H k => W.bin .gtr v12 (.int .i64 1000000000) H k) H fun v13 H =>
   W.pick v7 (.bool true) v13 H fun v14 H =>
   W.cond v14 H
   (fun H => Q (.tuple #[(.slice none 0 0), (.int .i64 3)]) H)
   (fun H => W.bin .add i_4 (.int .i64 1) H fun v15 H =>
    I1 (v15, ()) H))
  (fun H => Q (.tuple #[list_0, (.int .i64 0)]) H)
def f38.w (Q : Post) (list_0 : Value) (H : Heap) : Prop :=
  W.loop (S := St [4]) (fun I1 s H => f38.l1 Q list_0 I1 s.1 H) ((.int .i64 0), ()) H
theorem f38.enter {Q : Post} {list_0 : Value} {H : Heap} (h : f38.w Q list_0 H) : Runs Tryz.prog 38 #[list_0] H Q :=
  fn_enter (ann := [(2, [4])]) (by kernel_rfl) Tryz.func38 rfl (by kernel_rfl) h (by kernel_rfl)


theorem frac_scale {x d : Int} (h : d ≠ 0) : frac (sgI d * x) (d.natAbs : Nat) = frac x d := by
  unfold sgI
  by_cases hd : d < 0
  · rw [if_pos hd, show ((d.natAbs : Nat) : Int) = -d by omega, show -1 * x = -x by omega, frac_pos' (show 0 < -d by omega), frac_neg hd]
  · rw [if_neg hd, if_pos (by omega), show ((d.natAbs : Nat) : Int) = d by omega, Int.one_mul]

theorem frac_zero {d : Int} (h : 0 < d) : frac 0 d = (0, 1) := by
  rw [frac_pos' h]
  have : (Int.gcd 0 d : Int) = d := by simp [Int.gcd]; omega
  rw [this]
  simp
  exact Int.tdiv_self (by omega)

theorem fracT_eq (m d : Int) : fracT m d = if isFr 1000000000 (frac m d) = true then (frac m d, 0) else ((0, 0), 3) := rfl

theorem fracT_zero (m d : Int) : (fracT m d).2 = 0 ↔ isFr 1000000000 (frac m d) = true := by
  unfold fracT
  split
  · rename_i h; simp [h]
  · rename_i h; simp [h]

/-- Fractions, if they are within the limits. -/
def tolF (l : List Frac) : List Frac × Int := if l.all (isFr 1000000000) = true then (l, 0) else ([], 3)

theorem frAll_tol {l : List Int} {d : Int} {fs : List Frac} (h : l.map (fun m => frac m d) = fs) : frAll l d = tolF fs := by
  subst h
  unfold frAll tolF
  rw [List.all_map]
  have e1 : (fun n => decide ((fracT n d).2 = 0)) = (isFr 1000000000) ∘ fun m => frac m d := by
    funext m
    simp only [Function.comp]
    rw [Bool.eq_iff_iff, decide_eq_true_iff]
    exact fracT_zero m d
  rw [e1]
  split
  · rename_i hall
    congr 1
    refine List.map_congr_left fun m hm => ?_
    have := List.all_eq_true.1 hall m hm
    simp only [Function.comp] at this
    rw [fracT_eq, if_pos this]
  · rfl

theorem fn38 {H0 : Heap} {Q : Post} {v : Value} {l : List Frac} (hr : Has RFS H0 [v] l) (hg : ∀ a ∈ l, 1 ≤ a.2 ∧ Int.gcd a.1 a.2 = 1) (h1 : l.all (isFr 1000000000) = true → Q (.tuple #[v, .int .i64 0]) H0) (h2 : l.all (isFr 1000000000) = false → Q (.tuple #[.slice none 0 0, .int .i64 3]) H0) :
    Runs Tryz.prog 38 #[v] H0 Q := by
  have hsm := hr.small
  refine f38.enter ?_
  unfold f38.w
  refine W.for_rule l.length (fun i st H => H = H0 ∧ st = (.int .i64 (i : Nat), ()) ∧ ∀ j (hj : j < l.length), j < i → isFr 1000000000 l[j] = true) ⟨rfl, rfl, fun j _ hj => by omega⟩ ?_
  rintro i st H J hi ⟨rfl, rfl, hok⟩ hJ
  refine Wl.lenH hr (Wi.lssC (fun hlt => Wi.tru ?_) fun hge => Wi.fls ?_)
  · have hix : i < l.length := by omega
    obtain ⟨a1, a2⟩ := hg _ (List.getElem_mem hix)
    have bad : isFr 1000000000 l[i] = false → Q (.tuple #[.slice none 0 0, .int .i64 3]) H := fun hb => h2 (List.all_eq_false.2 ⟨_, List.getElem_mem hix, by rw [hb]; exact Bool.false_ne_true⟩)
    refine Wl.numFrH hr hix fun _ => Wi.call (fn44 ?_)
    cases hin : inR (-1000000000) 1000000000 l[i].1 with
    | false =>
      simp only [gw]
      refine bad ?_
      cases hb : isFr 1000000000 l[i] with
      | false => rfl
      | true => rw [inR_iff.2 (isFr_iff.1 hb).2.1] at hin; cases hin
    | true =>
      simp only [gw]
      refine Wl.denFrH hr hix fun _ => Wi.gtrC (fun hgt => Wi.tru ?_) fun hle => Wi.fls ?_
      · refine bad ?_
        cases hb : isFr 1000000000 l[i] with
        | false => rfl
        | true => have := (isFr_iff.1 hb).1.2; omega
      · refine Wi.add (by unfold I64; omega) (hJ _ _ hix ⟨rfl, rfl, fun j hj hji => ?_⟩)
        by_cases e : j = i
        · subst e
          exact isFr_iff.2 ⟨⟨a1, by omega⟩, inR_iff.1 hin, a2⟩
        · exact hok j hj (by omega)
  · have : i = l.length := by omega
    subst this
    refine h1 (List.all_eq_true.2 fun a ha => ?_)
    obtain ⟨j, hj, rfl⟩ := List.mem_iff_getElem.1 ha
    exact hok j hj hj

end Go.Proofs.YtdmgomeogedjgaaGreat
