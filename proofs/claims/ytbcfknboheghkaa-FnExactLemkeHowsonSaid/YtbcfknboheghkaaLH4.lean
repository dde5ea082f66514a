/- The contract of the program's LemkeHowson. No condition. -/
import Derived.Test.YtbcfknboheghkaaLH3
import Derived.Test.YtbcfknboheghkaaMXS
import Derived.Test.YtbcfknboheghkaaGM1
namespace Go.Proofs.Ytbcfknboheghkaa
open Go.Ab

/- loop.example/g01343/impl.LemkeHowson -/
def f7.l1 (Q : Post) (v15 : Value) (a_1 : Value) (v1 : Value) (I1 : St [11, 12] → Heap → Prop) (v_11 : Value) (steps_12 : Value) (H : Heap) : Prop :=
  W.bin .leq steps_12 (.int .i64 200) H fun v20 H =>
  W.cond v20 H
  (fun H => W.call Try.prog (.func (.func 29) #[] #[]) #[v15, v_11] H fun v21 H =>
   W.call Try.prog (.func (.func 28) #[] #[]) #[v15, v_11, v21] H fun v22 H =>
   W.bin .eql v22 a_1 H fun v23 H =>
   W.guarded v23 false (fun H k => k v22 H) H fun v24 H =>
   W.guarded v23 false (fun H k => k v15 H) H fun v25 H =>
   W.guarded v23 false (fun H k => W.nilCheck v25 H k) H fun v26 H =>
   W.guarded v23 false (fun H k => W.fieldAddr 3 v26 H k) H fun v27 H =>
   W.guarded v23 false (fun H k => W.get v27 H k) H fun v28 H =>
   W.guarded v23 false (fun H k => k a_1 H) H fun v29 H =>
   W.guarded v23 false (fun H k => W.bin .add v28 v29 H k) H fun v30 H =>
   W.guarded v23 false (fun H k => W.bin .eql v24 v30 H k) H fun v31 H =>
   W.pick v23 (.bool true) v31 H fun v32 H =>
   W.cond v32 H
   (fun H => W.getN 2 v1 H fun v33 H =>
    (fun Hk2 => W.call Try.prog (.func (.func 31) #[] #[]) #[v15] H fun v34 H =>
    W.chk (fun H k => W.getN 2 v1 H k) v33 H (W.nilCheck v15 H fun v35 H =>
    W.fieldAddr 3 v35 H fun v36 H =>
    W.get v36 H fun v37 H =>
    W.chk (fun H k => W.get v36 H k) v37 Hk2 (W.slice 1 v34 (some v37) none H fun v38 H =>
    W.call Try.prog (.func (.func 30) #[] #[]) #[v33, v38] H fun v39 H =>
    W.extract 0 v39 H fun v40 H =>
    W.extract 1 v39 H fun v41 H =>
    W.bin .neq v41 (.int .i64 0) H fun v42 H =>
    W.cond v42 H
    (fun H => Q (.tuple #[(.slice none 0 0), (.int .i64 0), v41]) H)
    (fun H => Q (.tuple #[v40, steps_12, (.int .i64 0)]) H)))) H)
   (fun H => W.call Try.prog (.func (.func 32) #[] #[]) #[v15, v22] H fun v43 H =>
    W.bin .add steps_12 (.int .i64 1) H fun v44 H =>
    I1 (v43, v44, ()) H))
  (fun H => Q (.tuple #[(.slice none 0 0), (.int .i64 0), (.int .i64 3)]) H)
def f7.w (Q : Post) (g_0 : Value) (a_1 : Value) (H : Heap) : Prop :=
  W.box g_0 29 H fun v1 H =>
  W.getN 2 v1 H fun v2 H =>
  W.call Try.prog (.func (.func 23) #[] #[]) #[v2] H fun v3 H =>
  W.un .not v3 H fun v4 H =>
  W.cond v4 H
  (fun H => Q (.tuple #[(.slice none 0 0), (.int .i64 0), (.int .i64 1)]) H)
  (fun H => W.getN 2 v1 H fun v5 H =>
   W.call Try.prog (.func (.func 24) #[] #[]) #[v5] H fun v6 H =>
   W.extract 0 v6 H fun v7 H =>
   W.extract 1 v6 H fun v8 H =>
   W.bin .add v7 v8 H fun v9 H =>
   W.bin .sub v9 (.int .i64 1) H fun v10 H =>
   W.call Try.prog (.func (.func 25) #[] #[]) #[a_1, (.int .i64 0), v10] H fun v11 H =>
   W.un .not v11 H fun v12 H =>
   W.cond v12 H
   (fun H => Q (.tuple #[(.slice none 0 0), (.int .i64 0), (.int .i64 2)]) H)
   (fun H => W.getN 2 v1 H fun v13 H =>
    W.call Try.prog (.func (.func 27) #[] #[]) #[v13] H fun v14 H =>
    W.call Try.prog (.func (.func 26) #[] #[]) #[v14, (.slice none 0 0)] H fun v15 H =>
    W.nilCheck v15 H fun v16 H =>
    W.fieldAddr 3 v16 H fun v17 H =>
    W.get v17 H fun v18 H =>
    W.bin .add v18 a_1 H fun v19 H =>
    W.loop (S := St [11, 12]) (fun I1 s H => f7.l1 Q v15 a_1 v1 I1 s.1 s.2.1 H) (v19, (.int .i64 1), ()) H))
theorem f7.enter {Q : Post} {g_0 : Value} {a_1 : Value} {H : Heap} (h : f7.w Q g_0 a_1 H) : Runs Try.prog 7 #[g_0, a_1] H Q :=
  fn_enter (ann := [(10, [11, 12]), (1000014, [])]) (by kernel_rfl) Try.func7 rfl (by kernel_rfl) h (by kernel_rfl)


theorem tkOf {H0 H : Heap} {L : List (Atom H0.next)} {b n i : Nat} {u w : Value} {d : Int} (h : Ab.Loc H0 L H) (hi : L[i]? = some (.box b [u, .int .i64 d, w, .int .i64 (n : Nat)])) : TK H b u d w n := by
  obtain ⟨bs, ⟨_, h1, ty, e, h2⟩, _⟩ := h.mem (List.mem_of_getElem? hi)
  exact ⟨h1, ty, e, h2⟩

/-- A part of a list that was made, and parts of it. -/
theorem sub_cut {H : Heap} {K : Post} {ty : TypeId} {v : Value} {xs : List Int} {n k : Nat} (h : Has (Rd.gslice Rd.int ty) H [v] xs) (hn : 1 ≤ n) (hl : n < xs.length) (hk : k ≤ xs.length - n)
    (c : ∀ w, Has RS H [w] (xs.drop n) → (∀ (H' : Heap) (K' : Post), H.Le H' → (∀ w', Has RS H' [w'] ((xs.drop n).drop k) → K' w' H') → W.slice 1 w (some (.int .i64 k)) none H' K') → K w H) : W.slice 1 v (some (.int .i64 n)) none H K := by
  obtain ⟨bs, w, hw, p⟩ := h
  simp only [List.cons.injEq, and_true] at hw
  subst hw
  rcases p with ⟨rfl, rfl, _⟩ | ⟨b, e, kb, fs, rfl, he, _, _, _, s, _, hesz, _, _⟩
  · simp at hl
  · unfold W.slice
    refine ⟨by omega, by omega, by omega, ?_⟩
    simp only [Int.toNat_natCast]
    rw [if_neg (by omega), if_neg (by omega)]
    simp only [s.blk]
    refine ⟨hesz, ?_⟩
    have sub : ∀ (H' : Heap), H.Le H' → ∀ j, j ≤ xs.length → Has RS H' [.slice (some (adr b j)) (xs.length - j) (e - 2 * j)] (xs.drop j) := fun H' l j hj => by
      have hdl : (xs.drop j).length = xs.length - j := by simp
      refine ⟨_, .inr ⟨b, j, e - 2 * j, kb, fun i => fs (j + i), rfl, by rw [hdl], ⟨by have := s.lt; have := l.next; omega, l.at s.blk s.lt, by rw [hdl]; omega, by rw [hdl]; have := s.small; omega, ?_, fun i hi => ?_⟩⟩⟩
      · rw [hdl]
        have := s.room
        simp only [Rd.int, Nat.mul_one] at this ⊢
        omega
      · have hi' : j + i < xs.length := by rw [hdl] at hi; omega
        rw [List.getElem_drop]
        have q := s.each (j + i) hi'
        have ec : cellsAt Rd.int.n kb.cells j i = cellsAt Rd.int.n kb.cells 0 (j + i) := by
          unfold cellsAt
          simp only [Rd.int, Nat.mul_one, Nat.zero_add]
        rw [ec]
        exact Rd.frame _ q l.next fun c hc => l.blk c (Rd.low _ q c hc)
    have ea : (⟨b, 0, none⟩ : Addr).add (n * 1) = ⟨b, n, none⟩ := by
      rw [Nat.mul_one]
      unfold Addr.add
      simp
      intro e
      omega
    have hsub := sub H (.refl _) n (by omega)
    show K (.slice (some ((adr b 0).add (n * 1))) (xs.length - n) (e - 2 * n)) H
    rw [show (adr b 0).add (n * 1) = adr b n from ea]
    refine c _ hsub fun H' K' l c' => ?_
    unfold W.slice
    refine ⟨by omega, by omega, by omega, ?_⟩
    simp only [Int.toNat_natCast]
    have hdd : (xs.drop n).drop k = xs.drop (n + k) := by rw [List.drop_drop]
    rw [hdd] at c'
    by_cases e1 : k = (e - 2 * n) / 2
    · rw [if_pos e1]
      have hx0 : xs.drop (n + k) = [] := List.drop_of_length_le (by omega)
      rw [hx0] at c'
      split
      · exact c' _ ⟨[], .inl ⟨rfl, rfl, .inr (.inr ⟨_, rfl⟩)⟩⟩
      · exact c' _ ⟨[], .inl ⟨rfl, rfl, .inr (.inl rfl)⟩⟩
    · rw [if_neg e1]
      by_cases e2 : k = 0
      · subst e2
        rw [if_pos rfl]
        exact c' _ (sub H' l n (by omega))
      · rw [if_neg e2]
        simp only [l.at s.blk s.lt]
        refine ⟨hesz, ?_⟩
        have ea2 : (adr b n).add (k * 1) = adr b (n + k) := by
          rw [Nat.mul_one]
          unfold Addr.add adr
          simp
        rw [ea2]
        have := c' _ (sub H' l (n + k) (by omega))
        rw [show xs.length - (n + k) = xs.length - n - k by omega, show e - 2 * (n + k) = e - 2 * n - 2 * k by omega] at this
        exact this

theorem fn7 {H0 : Heap} {Q : Post} {cs : List Value} {g : Game} {a : Int} (hr : Has RGame H0 cs g) (ha : I64 a) (hw : wGame g ≤ 1048576) (hQ : ∀ H' u, Fresh RFS H0 [u] (lhRes g a).1 H' → Q (.tuple #[u, .int .i64 (lhRes g a).2.1, .int .i64 (lhRes g a).2.2]) H') :
    Runs Try.prog 7 #[.agg cs.toArray, .int .i64 a] H0 Q := by
  obtain ⟨u1, u2, rfl, r1, r2⟩ := hasGame hr
  have hz : ∀ H c, H0.Le H → lhRes g a = ([], 0, c) → Q (.tuple #[.slice none 0 0, .int .i64 0, .int .i64 c]) H := fun H c l e => by
    have := hQ H (.slice none 0 0) (by rw [e]; exact fresh_nil l)
    rw [e] at this
    exact this
  have h := ((Loc.start H0).lent r1).lent hr
  refine f7.enter ?_
  unfold f7.w
  refine Wl.box (cs := [u1, u2]) h fun H b1 h => Wl.getA (b := b1) h rfl (Wi.call (fn23 (h.rd (cs := [u1, u2]) (x := g)) hw fun H t l ht => ?_))
  have h := h.to l
  cases t with
  | false =>
    simp only [gw]
    exact hz _ _ h.le (by unfold lhRes; rw [if_neg (fun q => Bool.noConfusion (ht.2 q))])
  | true =>
  have hg := ht.1 rfl
  have k1 := hg.k1
  have hk0 : 0 < g.1.length := by omega
  have hlw := lw_at hk0
  have hnn : nG g = g.1.length + lw g := rfl
  have n5 : nG g ≤ 5 := hg.kl
  simp only [gw]
  refine Wl.getA (b := b1) h rfl (Wi.call (f24.enter (Wl.box h fun H b3 h => Wi.fieldAddr0 (Wl.get (b := b3) h rfl (Wl.len (v := u1) (xs := g.1) h (Wi.fieldAddr0 (Wl.get (b := b3) h rfl (Wl.at1 (v := u1) (xs := g.1) (i := 0) rfl h hk0 fun w hw => Wl.lenH hw ?_))))))))
  have h := h.tl
  rw [← hlw]
  simp only [gw]
  refine Wi.add (by unfold I64; omega) (Wi.sub (by unfold I64; omega) (Wi.call (fn25 ?_)))
  cases hin : inR 0 ((g.1.length : Nat) + (lw g : Nat) - 1 : Int) a with
  | false =>
    simp only [gw]
    refine hz _ _ h.le ?_
    unfold lhRes
    rw [if_pos hg, if_neg fun q => ?_]
    have : inR 0 ((g.1.length : Nat) + (lw g : Nat) - 1 : Int) a = true := inR_iff.2 ⟨q.1, by omega⟩
    rw [hin] at this
    cases this
  | true =>
  have hin := inR_iff.1 hin
  obtain ⟨a, rfl⟩ : ∃ k : Nat, a = (k : Int) := ⟨a.toNat, by omega⟩
  have han : a < nG g := by omega
  simp only [gw]
  refine Wl.getA (b := b1) h rfl (Wi.call (fn27 (h.rd (cs := [u1, u2]) (x := g)) hg fun H w1 w2 f => ?_))
  have h := h.add f
  refine Wi.call (fn26 hg (h.rd (cs := [w1, w2]) (x := gmP g)) fun H b u w k => ?_)
  have h : Ab.Loc H0 (.box b [u, .int .i64 1, w, .int .i64 (nG g : Nat)] :: .data RSS [u] (lhRows0 g) :: .data RS [w] (bas0 (nG g)) :: .data RProblem [w1, w2] (gmP g) :: .box b1 [u1, u2] :: .lent RGame [u1, u2] g :: .lent RSS [u1] g.1 :: []) H := h.join (M' := [.box b [u, .int .i64 1, w, .int .i64 (nG g : Nat)], .data RSS [u] (lhRows0 g), .data RS [w] (bas0 (nG g))]) k fun j a hj => by
    match j, hj with
    | 0, hj => simp at hj; subst hj; exact ⟨_, rfl, fun bs h => h⟩
    | 1, hj => simp at hj; subst hj; exact ⟨_, rfl, fun bs h => h⟩
    | 2, hj => simp at hj; subst hj; exact ⟨_, rfl, fun bs h => h⟩
    | j + 3, hj => simp at hj
  obtain ⟨us, hus, h⟩ := h.heads (i := 1) rfl rfl
  have h : Ab.Loc H0 [.box b [u, .int .i64 (lhIt g a 0).den, w, .int .i64 (nG g : Nat)], .rows RS u us (lhIt g a 0).rows, .data RS [w] (lhIt g a 0).bas, .data RProblem [w1, w2] (gmP g), .box b1 [u1, u2], .lent RGame [u1, u2] g, .lent RSS [u1] g.1] H := h
  have inv := lh_inv hg han
  refine Wi.nilP (Wi.fieldAddr (Wl.get (b := b) (o := 3) h rfl (Wi.add (by unfold I64; omega) ?_)))
  rw [show ((nG g : Nat) : Int) + ((a : Nat) : Int) = (((lhIt g a 0).v : Nat) : Int) by show _ = ((nG g + a : Nat) : Int); omega]
  refine W.for_rule 200 (fun m st H => st = (.int .i64 ((lhIt g a m).v : Nat), .int .i64 ((m + 1 : Nat) : Int), ()) ∧ (∀ j, j < m → ¬ lhEnd g a j) ∧ Ab.Loc H0 [.box b [u, .int .i64 (lhIt g a m).den, w, .int .i64 (nG g : Nat)], .rows RS u us (lhIt g a m).rows, .data RS [w] (lhIt g a m).bas, .data RProblem [w1, w2] (gmP g), .box b1 [u1, u2], .lent RGame [u1, u2] g, .lent RSS [u1] g.1] H) ⟨rfl, fun j hj => by omega, h⟩ ?_
  rintro m st H J hm ⟨rfl, hno, h⟩ hJ
  unfold f7.l1
  generalize htop : (200 : Int) = top
  refine Wi.leqC (fun hle => Wi.tru ?_) fun hgt => Wi.fls ?_
  · have hm2 : m < 200 := by omega
    have hI := inv m
    have hT := hI.rowsT hg
    obtain ⟨hl, hle2⟩ := hI.least hg
    have hv2 := hI.vl
    refine Wi.call (fn29 (tkOf h (i := 0) rfl) (h.rd (cs := [u]) (r := RSS) (x := (lhIt g a m).rows)) hT (v := (lhIt g a m).v) (by omega) fun H l => ?_)
    have h := h.to l
    rw [hle2]
    refine Wi.call (fn28 hg hI h fun H h => ?_)
    have h : Ab.Loc H0 [.box b [u, .int .i64 (lhIt g a (m + 1)).den, w, .int .i64 (nG g : Nat)], .rows RS u us (lhIt g a (m + 1)).rows, .data RS [w] (lhIt g a (m + 1)).bas, .data RProblem [w1, w2] (gmP g), .box b1 [u1, u2], .lent RGame [u1, u2] g, .lent RSS [u1] g.1] H := h
    have hI2 := inv (m + 1)
    have hlb : lhLeft (nG g) (lhIt g a m) < 2 * nG g := (hI.bas hl.lt).2
    by_cases hend : lhEnd g a m
    · have hres := lhRes_some hg han hm2 hno hend
      obtain ⟨s1, s2⟩ := lh_parts hg han hno hend
      have hzl := zOf_len (nG g) (lhIt g a (m + 1))
      have hza : ∀ x ∈ zOf (nG g) (lhIt g a (m + 1)), x.natAbs ≤ 1920000000 := fun x hx => by have := (zOf_abs hg hI2 x hx).2; omega
      have go : W.getN 2 (pt b1 0) H fun v33 H => (fun Hk2 => W.call Try.prog (.func (.func 31) #[] #[]) #[pt b 0] H fun v34 H => W.chk (fun H k => W.getN 2 (pt b1 0) H k) v33 H (W.nilCheck (pt b 0) H fun v35 H => W.fieldAddr 3 v35 H fun v36 H => W.get v36 H fun v37 H => W.chk (fun H k => W.get v36 H k) v37 Hk2 (W.slice 1 v34 (some v37) none H fun v38 H => W.call Try.prog (.func (.func 30) #[] #[]) #[v33, v38] H fun v39 H => W.extract 0 v39 H fun v40 H => W.extract 1 v39 H fun v41 H => W.bin .neq v41 (.int .i64 0) H fun v42 H => W.cond v42 H (fun H => Q (.tuple #[.slice none 0 0, .int .i64 0, v41]) H) (fun H => Q (.tuple #[v40, .int .i64 ((m + 1 : Nat) : Int), .int .i64 0]) H)))) H := by
        refine Wl.getA (b := b1) h rfl ?_
        have hk := h
        refine Wi.call (fn31 hg hI2 (tkOf h (i := 0) rfl) (h.rd (cs := [u]) (r := RSS) (x := (lhIt g a (m + 1)).rows)) (h.rd (cs := [w]) (x := (lhIt g a (m + 1)).bas)) fun H v f => ?_)
        have h := h.addG f
        refine Wi.chk (Wl.getA (b := b1) h rfl ⟨rfl, rfl⟩) (Wi.nilP (Wi.fieldAddr (Wl.get (b := b) (o := 3) h rfl (Wi.chk (Wl.get (b := b) (o := 3) hk rfl ⟨rfl, rfl⟩) ?_))))
        have h := h.asG (i := 0) rfl
        have hgs : Has (Rd.gslice Rd.int 2) H [v] (vTo (lhIt g a (m + 1)) (nG g) (nG g)) := h.rd (cs := [v])
        have hvl := vTo_len (lhIt g a (m + 1)) (nG g) (nG g)
        refine sub_cut (k := g.1.length) hgs (by omega) (by omega) (by omega) fun vz hvz hcut => ?_
        have ez : (vTo (lhIt g a (m + 1)) (nG g) (nG g)).drop (nG g) = zOf (nG g) (lhIt g a (m + 1)) := vTo_drop _ _ _
        rw [ez] at hvz hcut
        refine Wi.call (fnC30 (h.rd (cs := [u1, u2]) (x := g)) hg hvz hcut hzl hza s1 s2 fun H x f => ?_)
        have h := h.add f
        simp only [gw]
        refine Wi.neqC (fun hne => Wi.tru ?_) fun he => Wi.fls ?_
        · exact hz _ _ h.le (by rw [hres, if_neg hne])
        · have := hQ H x (by rw [hres, if_pos he]; exact h.ret (i := 0) rfl)
          rw [hres, if_pos he] at this
          exact this
      by_cases e1 : lhLeft (nG g) (lhIt g a m) = a
      · refine Wi.eqlC (fun _ => ?_) fun q => absurd (by rw [e1]) q
        simp only [gw]
        exact go
      · have e2 := hend.resolve_left e1
        refine Wi.eqlC (fun q => absurd (by omega) e1) fun _ => ?_
        simp only [gw]
        refine Wi.nilP (Wi.fieldAddr (Wl.get (b := b) (o := 3) h rfl (Wi.add (by unfold I64; omega) (Wi.eqlC (fun _ => ?_) fun q => absurd (by rw [e2]; omega) q))))
        simp only [gw]
        exact go
    · refine Wi.eqlC (fun q => absurd (.inl (by omega)) hend) fun _ => ?_
      simp only [gw]
      refine Wi.nilP (Wi.fieldAddr (Wl.get (b := b) (o := 3) h rfl (Wi.add (by unfold I64; omega) (Wi.eqlC (fun q => absurd (.inr (by omega)) hend) fun _ => ?_))))
      simp only [gw]
      refine Wi.call (fn32 (tkOf h (i := 0) rfl) n5 hlb ?_)
      refine Wi.add (by unfold I64; omega) (hJ _ _ hm2 ⟨rfl, fun j hj => ?_, h⟩)
      by_cases c : j = m
      · subst c; exact hend
      · exact hno j (by omega)
  · have hm2 : m = 200 := by omega
    subst hm2
    exact hz _ _ h.le (lhRes_none hg han hno)

end Go.Proofs.Ytbcfknboheghkaa
