/- SolutionsOf of the program, where all covering sets have one solution. No condition. -/
import Derived.Test.YtdmgomeogedjgaaGreatGSO
import Derived.Test.YtdmgomeogedjgaaGreatSR3
import Derived.Test.YtdmgomeogedjgaaGreatCV1
import Derived.Test.YtdmgomeogedjgaaGreatDG1
namespace Go.Proofs.YtdmgomeogedjgaaGreat
open Go.Ab

/- loop.example/g01343/impl.SolutionsOf -/
def f8.l1 (Q : Post) (v7 : Value) (v4 : Value) (v1 : Value) (I1 : St [6, 21] → Heap → Prop) (out_6 : Value) (x_21 : Value) (H : Heap) : Prop :=
  W.bin .lss x_21 v7 H fun v8 H =>
  W.cond v8 H
  (fun H => W.indexAddr 1 v4 x_21 H fun v9 H =>
   W.get v9 H fun v10 H =>
   W.getN 2 v1 H fun v11 H =>
   W.call Tryz.prog (.func (.func 22) #[] #[]) #[v11, v10] H fun v12 H =>
   W.extract 0 v12 H fun v13 H =>
   W.extract 1 v12 H fun v14 H =>
   W.bin .neq v14 (.int .i64 0) H fun v15 H =>
   W.cond v15 H
   (fun H => Q (.tuple #[(.slice none 0 0), v14]) H)
   (fun H => W.lit 1 [(.slice none 0 0)] 38 [(0, 1, v13)] H fun v16 H =>
    W.append 1 38 out_6 v16 H fun v17 H =>
    W.bin .add x_21 (.int .i64 1) H fun v18 H =>
    I1 (v17, v18, ()) H))
  (fun H => W.call Tryz.prog (.func (.func 23) #[] #[]) #[out_6, (.func (.func 24) #[] #[])] H fun v19 H =>
   W.call Tryz.prog (.func (.func 25) #[] #[]) #[out_6, (.func (.func 26) #[] #[])] H fun v20 H =>
   Q (.tuple #[v20, (.int .i64 0)]) H)
def f8.w (Q : Post) (p_0 : Value) (H : Heap) : Prop :=
  W.box p_0 31 H fun v1 H =>
  W.getN 2 v1 H fun v2 H =>
  W.call Tryz.prog (.func (.func 21) #[] #[]) #[v2] H fun v3 H =>
  W.extract 0 v3 H fun v4 H =>
  W.extract 1 v3 H fun v5 H =>
  W.bin .neq v5 (.int .i64 0) H fun v6 H =>
  W.cond v6 H
  (fun H => Q (.tuple #[(.slice none 0 0), v5]) H)
  (fun H => W.len v4 H fun v7 H =>
   W.loop (S := St [6, 21]) (fun I1 s H => f8.l1 Q v7 v4 v1 I1 s.1 s.2.1 H) ((.slice none 0 0), (.int .i64 0), ()) H)
theorem f8.enter {Q : Post} {p_0 : Value} {H : Heap} (h : f8.w Q p_0 H) : Runs Tryz.prog 8 #[p_0] H Q :=
  fn_enter (ann := [(6, [6, 21])]) (by kernel_rfl) Tryz.func8 rfl (by kernel_rfl) h (by kernel_rfl)


theorem covN_ok {n : Nat} {p : Prob} {s : Nat} (h : s ∈ covN n p) : s < 2 ^ n ∧ det n (mAt (colL n p.1 s)) ≠ 0 ∧ ∀ x ∈ ptOf n p s, 0 ≤ x := by
  unfold covN at h
  rw [List.mem_filter, List.mem_range] at h
  obtain ⟨h1, h2⟩ := h
  unfold covB at h2
  rw [Bool.and_eq_true] at h2
  exact ⟨h1, of_decide_eq_true h2.1, fun x hx => of_decide_eq_true (List.all_eq_true.1 h2.2 x hx)⟩

theorem fnP8 {H0 : Heap} {Q : Post} {cs : List Value} {p : Prob} {Z : List Frac} (hr : Has RProblem H0 cs p) (hp : isProb p = true) (hZ : ∀ s ∈ covN p.2.length p, solF p.2.length p s = Z) (hne : covN p.2.length p ≠ []) (hz : ∀ a ∈ Z, isFr 1000000000 a = true)
    (hQ : ∀ H' w, Fresh RFSS' H0 [w] [Z] H' → Q (.tuple #[w, .int .i64 0]) H') : Runs Tryz.prog 8 #[.agg cs.toArray] H0 Q := by
  have hlen := hr.len
  have hpb := PB.of hp
  have h32 := pow5 hpb.n5
  have hcl := covN_len p.2.length p
  have hpos : 0 < (covN p.2.length p).length := List.length_pos_iff.2 hne
  have h := (Loc.start H0).lent hr
  refine f8.enter ?_
  unfold f8.w
  refine Wl.box h fun H b h => Wl.getA h hlen (Wi.call (fn21 (h.rd (cs := cs)) fun H v4 f => ?_))
  have h := h.add f
  have ecv : cvRes p = (covL p.2.length p, 0) := by unfold cvRes; rw [if_pos hp]
  rw [ecv, covL_map] at h
  rw [ecv]
  simp only [gw]
  refine Wi.neqC (fun g => absurd rfl g) fun _ => Wi.fls ?_
  refine Wl.len (v := v4) (xs := (covN p.2.length p).map fun (s : Nat) => (s : Int)) h ?_
  rw [List.length_map]
  have h : Ab.Loc H0 [.grow RFS 38 (.slice none 0 0) [], .data RS [v4] ((covN p.2.length p).map fun (s : Nat) => (s : Int)), .box b cs, .lent RProblem cs p] H := h.nilG RFS 38
  refine W.for_rule (covN p.2.length p).length (fun x st H => ∃ out, st = (out, .int .i64 (x : Nat), ()) ∧ Ab.Loc H0 [.grow RFS 38 out (List.replicate x Z), .data RS [v4] ((covN p.2.length p).map fun (s : Nat) => (s : Int)), .box b cs, .lent RProblem cs p] H) ⟨_, rfl, h⟩ ?_
  rintro x st H J hx ⟨out, rfl, h⟩ hJ
  refine Wi.lssC (fun hlt => Wi.tru ?_) fun hge => Wi.fls ?_
  · have hxl : x < (covN p.2.length p).length := by omega
    have hmem := List.getElem_mem hxl
    obtain ⟨g1, g2, g3⟩ := covN_ok hmem
    have hsz := hZ _ hmem
    refine Wl.atInt (v := v4) (xs := (covN p.2.length p).map fun (s : Nat) => (s : Int)) (i := x) h (by simpa using hxl) fun _ => ?_
    rw [List.getElem_map]
    refine Wl.getA (b := b) h hlen (Wi.call (fn22 (h.rd (cs := cs)) hp g1 g2 g3 fun H u f => ?_))
    have et : tolF (solF p.2.length p (covN p.2.length p)[x]) = (Z, 0) := by
      rw [hsz]
      unfold tolF
      rw [if_pos (List.all_eq_true.2 hz)]
    rw [et] at f ⊢
    have h := h.add f
    have hcu := (h.rd (cs := [u]) (r := RFS)).one
    simp only [gw]
    refine Wi.neqC (fun g => absurd rfl g) fun _ => Wi.fls ?_
    refine Wl.pushO (r := RFS) (u := u) (x := Z) (i := 1) (j := 0) rfl h (by decide) hcu (by simp; omega) fun H out' h => Wi.add (by unfold I64; omega) (hJ _ _ hxl ⟨out', rfl, ?_⟩)
    have h : Ab.Loc H0 [.emp, .grow RFS 38 out' (List.replicate x Z ++ [Z]), .data RS [v4] ((covN p.2.length p).map fun (s : Nat) => (s : Int)), .box b cs, .lent RProblem cs p] H := h
    rw [← List.replicate_succ'] at h
    exact h.cut 0
  · have hxe : x = (covN p.2.length p).length := by omega
    have hd : Has RFSS' H [out] (List.replicate x Z) := h.rd (cs := [out])
    refine Wi.call (fn23 hz hd ⟨by omega, by omega⟩ fun H l => ?_)
    have h := h.to l
    refine Wi.call (fn25 (j := 0) hz h rfl (by omega) fun H w h => ?_)
    exact hQ _ w (h.ret (i := 0) rfl)

end Go.Proofs.YtdmgomeogedjgaaGreat
