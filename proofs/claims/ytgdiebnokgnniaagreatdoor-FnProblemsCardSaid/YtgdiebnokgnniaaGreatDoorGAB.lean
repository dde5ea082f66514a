/- The contract of the program's determinant: Bareiss' steps, rows exchanged where needed. No condition. -/
import Derived.Test.YtgdiebnokgnniaaGreatDoorGAA
import Derived.Test.YtgdiebnokgnniaaGreatDoorZabG7
import Derived.Test.YtgdiebnokgnniaaGreatDoorZabG8
import Derived.Test.YtgdiebnokgnniaaGreatDoorA1
import Derived.Test.YtgdiebnokgnniaaGreatDoorZabG5
namespace Go.Proofs.YtgdiebnokgnniaaGreatDoor
open Go.Ab

/- loop.example/g01343/impl.determinant -/
def f41.l3 (Q : Post) (v29 : Value) (v4 : Value) (v1 : Value) (v32 : Value) (last_4 : Value) (x_53 : Value) (I2 : St [53] → Heap → Prop) (I3 : St [11] → Heap → Prop) (c_11 : Value) (H : Heap) : Prop :=
  W.len v29 H fun v34 H =>
  W.bin .lss c_11 v34 H fun v35 H =>
  W.cond v35 H
  (fun H => W.indexAddr 1 v29 c_11 H fun v36 H =>
   W.get v36 H fun v37 H =>
   W.get v4 H fun v38 H =>
   W.indexAddr 1 v1 v38 H fun v39 H =>
   W.get v39 H fun v40 H =>
   W.get v4 H fun v41 H =>
   W.indexAddr 1 v40 v41 H fun v42 H =>
   W.get v42 H fun v43 H =>
   W.bin .mul v37 v43 H fun v44 H =>
   W.get v4 H fun v45 H =>
   W.indexAddr 1 v1 v45 H fun v46 H =>
   W.get v46 H fun v47 H =>
   W.indexAddr 1 v47 c_11 H fun v48 H =>
   W.get v48 H fun v49 H =>
   W.bin .mul v32 v49 H fun v50 H =>
   W.bin .sub v44 v50 H fun v51 H =>
   W.bin .quo v51 last_4 H fun v52 H =>
   W.indexAddr 1 v29 c_11 H fun v53 H =>
   W.put v53 v52 H fun _ H =>
   W.bin .add c_11 (.int .i64 1) H fun v54 H =>
   I3 (v54, ()) H)
  (fun H => W.bin .add x_53 (.int .i64 1) H fun v55 H =>
   I2 (v55, ()) H)
def f41.l2 (Q : Post) (v26 : Value) (v25 : Value) (v4 : Value) (v1 : Value) (last_4 : Value) (x_16 : Value) (turn_5' : Value) (I1 : St [4, 5, 16] → Heap → Prop) (I2 : St [53] → Heap → Prop) (x_53 : Value) (H : Heap) : Prop :=
  W.bin .lss x_53 v26 H fun v27 H =>
  W.cond v27 H
  (fun H => W.indexAddr 1 v25 x_53 H fun v28 H =>
   W.get v28 H fun v29 H =>
   W.get v4 H fun v30 H =>
   W.indexAddr 1 v29 v30 H fun v31 H =>
   W.get v31 H fun v32 H =>
   W.get v4 H fun v33 H =>
   W.loop (S := St [11]) (fun I3 s H => f41.l3 Q v29 v4 v1 v32 last_4 x_53 I2 I3 s.1 H) (v33, ()) H)
  (fun H => W.get v4 H fun v56 H =>
   W.indexAddr 1 v1 v56 H fun v57 H =>
   W.get v57 H fun v58 H =>
   W.get v4 H fun v59 H =>
   W.indexAddr 1 v58 v59 H fun v60 H =>
   W.get v60 H fun v61 H =>
   W.bin .add x_16 (.int .i64 1) H fun v62 H =>
   I1 (v61, turn_5', v62, ()) H)
def f41.j1 (Q : Post) (v4 : Value) (v1 : Value) (last_4 : Value) (x_16 : Value) (I1 : St [4, 5, 16] → Heap → Prop) (turn_5' : Value) (H : Heap) : Prop :=
  W.get v4 H fun v23 H =>
  W.bin .add v23 (.int .i64 1) H fun v24 H =>
  W.slice 1 v1 (some v24) none H fun v25 H =>
  W.len v25 H fun v26 H =>
  W.loop (S := St [53]) (fun I2 s H => f41.l2 Q v26 v25 v4 v1 last_4 x_16 turn_5' I1 I2 s.1 H) ((.int .i64 0), ()) H
def f41.l1 (Q : Post) (v2 : Value) (v1 : Value) (I1 : St [4, 5, 16] → Heap → Prop) (last_4 : Value) (turn_5 : Value) (x_16 : Value) (H : Heap) : Prop :=
  W.bin .lss x_16 v2 H fun v3 H =>
  W.cond v3 H
  (fun H => W.new [(.int .i64 0)] 3 H fun v4 H =>
   W.put v4 x_16 H fun _ H =>
   W.get v4 H fun v5 H =>
   W.slice 1 v1 (some v5) none H fun v6 H =>
   W.call Tryz.prog (.func (.func 90) #[] #[]) #[v6, (.func (.func 91) #[] #[v4])] H fun v7 H =>
   W.bin .lss v7 (.int .i64 0) H fun v8 H =>
   W.cond v8 H
   (fun H => Q (.int .i64 0) H)
   (fun H => W.bin .gtr v7 (.int .i64 0) H fun v9 H =>
    W.cond v9 H
    (fun H => W.get v4 H fun v10 H =>
     W.get v4 H fun v11 H =>
     W.bin .add v11 v7 H fun v12 H =>
     W.get v4 H fun v13 H =>
     W.bin .add v13 v7 H fun v14 H =>
     W.indexAddr 1 v1 v14 H fun v15 H =>
     W.get v15 H fun v16 H =>
     W.get v4 H fun v17 H =>
     W.indexAddr 1 v1 v17 H fun v18 H =>
     W.get v18 H fun v19 H =>
     W.indexAddr 1 v1 v10 H fun v20 H =>
     W.put v20 v16 H fun _ H =>
     W.chk (fun H k => W.get v4 H k) v11 H (W.indexAddr 1 v1 v12 H fun v21 H =>
     W.put v21 v19 H fun _ H =>
     W.un .neg turn_5 H fun v22 H =>
     f41.j1 Q v4 v1 last_4 x_16 I1 v22 H))
    (fun H => f41.j1 Q v4 v1 last_4 x_16 I1 turn_5 H)))
  (fun H => W.bin .mul turn_5 last_4 H fun v63 H =>
   Q v63 H)
def f41.w (Q : Post) (rows_0 : Value) (H : Heap) : Prop :=
  W.call Tryz.prog (.func (.func 83) #[] #[]) #[rows_0] H fun v1 H =>
  W.len v1 H fun v2 H =>
  W.loop (S := St [4, 5, 16]) (fun I1 s H => f41.l1 Q v2 v1 I1 s.1 s.2.1 s.2.2.1 H) ((.int .i64 1), (.int .i64 1), (.int .i64 0), ()) H
theorem f41.enter {Q : Post} {rows_0 : Value} {H : Heap} (h : f41.w Q rows_0 H) : Runs Tryz.prog 41 #[rows_0] H Q :=
  fn_enter (ann := [(4, [4, 5, 16]), (13, [53]), (17, [11])]) (by kernel_rfl) Tryz.func41 rfl (by kernel_rfl) h (by kernel_rfl)

/- loop.example/g01343/impl.determinant$1 -/
def f91.w (Q : Post) (row_0 : Value) (x_1 : Value) (H : Heap) : Prop :=
  W.get x_1 H fun v1 H =>
  W.indexAddr 1 row_0 v1 H fun v2 H =>
  W.get v2 H fun v3 H =>
  W.bin .neq v3 (.int .i64 0) H fun v4 H =>
  Q v4 H
theorem f91.enter {Q : Post} {row_0 : Value} {x_1 : Value} {H : Heap} (h : f91.w Q row_0 x_1 H) : Runs Tryz.prog 91 #[row_0, x_1] H Q :=
  fn_enter (ann := []) (by kernel_rfl) Tryz.func91 rfl (by kernel_rfl) h (by kernel_rfl)


theorem tdiv_i64 {x y : Int} {A : Nat} (h : x.natAbs ≤ A) (hA : A < 9223372036854775808) : I64 (x.tdiv y) := i64A (quoA h) hA

/-- One row's elimination. -/
theorem det_l3' {H0 H : Heap} {Q : Post} {b : Nat} {v u x53 : Value} {us : List Value} {xs : List (List Int)} {n i a : Nat} {last f : Int} {J2 : St [53] → Heap → Prop} (h : Ab.Loc H0 [.box b [.int .i64 (i : Nat)], .rowsE RS v us xs] H) (hs : Sq n xs) (hn : n ≤ 5) (hia : i < a) (han : a < n) (hu : us[a]? = some u) (hl : last ≠ 0)
    (hf : f.natAbs ≤ 1600000000) (hB : ∀ c, i ≤ c → c < n → (mAt xs i c).natAbs ≤ 1600000000) (hB2 : ∀ c, i ≤ c → c < n → (mAt xs a c).natAbs ≤ 1600000000)
    (hJ : ∀ H', Ab.Loc H0 [.box b [.int .i64 (i : Nat)], .rowsE RS v us (xs.set a (elimTo i n last (xs.getD i []) f (xs.getD a [])))] H' → W.bin .add x53 (.int .i64 1) H' fun v55 H => J2 (v55, ()) H) :
    W.loop (S := St [11]) (fun I3 s H => f41.l3 Q u (pt b 0) v (.int .i64 f) (.int .i64 last) x53 J2 I3 s.1 H) (.int .i64 (i : Nat), ()) H := by
  have hl1 := hs.1
  have hax : a < xs.length := by omega
  have hix : i < xs.length := by omega
  have hra := hs.2 _ (List.getElem_mem hax)
  have hri := hs.2 _ (List.getElem_mem hix)
  refine W.for_rule (n - i) (fun k s H => s = (.int .i64 ((i + k : Nat) : Int), ()) ∧ Ab.Loc H0 [.box b [.int .i64 (i : Nat)], .rowsE RS v us (xs.set a (elimTo i (i + k) last (xs.getD i []) f (xs.getD a [])))] H) ⟨rfl, ?_⟩ ?_
  · rw [Nat.add_zero, elimTo_start, rowD hax, List.set_getElem_self]
    exact h
  rintro k s H J3 hk ⟨rfl, h⟩ hJ3
  have hal : a < (xs.set a (elimTo i (i + k) last (xs.getD i []) f (xs.getD a []))).length := by rw [List.length_set]; exact hax
  have hil : i < (xs.set a (elimTo i (i + k) last (xs.getD i []) f (xs.getD a []))).length := by rw [List.length_set]; exact hix
  have hya : (xs.set a (elimTo i (i + k) last (xs.getD i []) f (xs.getD a [])))[a] = elimTo i (i + k) last (xs.getD i []) f (xs.getD a []) := by simp
  have hyi : (xs.set a (elimTo i (i + k) last (xs.getD i []) f (xs.getD a [])))[i] = xs[i] := by rw [List.getElem_set_ne (by omega)]
  have hel : (elimTo i (i + k) last (xs.getD i []) f (xs.getD a [])).length = n := by rw [elimTo_len, rowD hax, hra]
  have hw := h.rowE rfl (j := 1) rfl hu hal
  rw [hya] at hw
  refine Wl.lenH hw (Wi.lssC (fun hlt => Wi.tru ?_) fun hge => Wi.fls ?_)
  · have hkn : k < n - i := by omega
    have hkl : i + k < (elimTo i (i + k) last (xs.getD i []) f (xs.getD a [])).length := by omega
    have hka : i + k < (xs.getD a []).length := by rw [rowD hax]; omega
    have b1 := hB2 (i + k) (by omega) (by omega)
    have b2 := hB i (by omega) (by omega)
    have b3 := hB (i + k) (by omega) (by omega)
    have e1 : (elimTo i (i + k) last (xs.getD i []) f (xs.getD a []))[i + k] = mAt xs a (i + k) := by
      rw [elimTo_at hka (Nat.le_refl _)]
      simp only [mAt]
      rw [atD hka]
    have m1 := mulA b1 b2
    have m2 := mulA hf b3
    refine Wl.atIntH hw hkl fun _ => Wl.get h rfl (Wl.atRowE rfl h hil fun w2 _ hw2 => ?_)
    rw [hyi] at hw2
    have hii : i < xs[i].length := by omega
    have hik : i + k < xs[i].length := by omega
    have e2 : xs[i][i] = mAt xs i i := (mAt_at hix hii).symm
    have e3 : xs[i][i + k] = mAt xs i (i + k) := (mAt_at hix hik).symm
    refine Wl.get h rfl (Wl.atIntH hw2 hii fun _ => Wi.mul (by rw [e1, e2]; exact i64A m1 (by decide)) (Wl.get h rfl (Wl.atRowE rfl h hil fun w3 _ hw3 => ?_)))
    rw [hyi] at hw3
    refine Wl.atIntH hw3 hik fun _ => ?_
    rw [e1, e2, e3]
    refine Wi.mul (i64A m2 (by decide)) (Wi.sub (i64A (subA m1 m2) (by decide)) (Wi.quo hl (tdiv_i64 (subA m1 m2) (by decide)) ?_))
    refine Wl.rowSetE h (j := 1) rfl hu hal (by rw [hya]; exact hkl) (tdiv_i64 (subA m1 m2) (by decide)) fun H h => Wi.add (by unfold I64; omega) (hJ3 _ _ hkn ⟨rfl, ?_⟩)
    have es := elimTo_step (last := last) (p := xs.getD i []) (f := f) hka (Nat.le_add_right i k)
    have e4 : (xs.getD a [])[i + k] = mAt xs a (i + k) := by simp only [mAt]; rw [atD hka]
    rw [e4] at es
    have h2 : Ab.Loc H0 [.box b [.int .i64 (i : Nat)], .rowsE RS v us ((xs.set a (elimTo i (i + k) last (xs.getD i []) f (xs.getD a []))).set a ((xs.set a (elimTo i (i + k) last (xs.getD i []) f (xs.getD a [])))[a].set (i + k) ((mAt xs a (i + k) * mAt xs i i - f * mAt xs i (i + k)).tdiv last)))] H := h
    rw [hya, List.set_set, es] at h2
    exact h2
  · have : k = n - i := by omega
    subst this
    rw [show i + (n - i) = n by omega] at h
    exact hJ _ h

/-- All rows' elimination, and the step's end. -/
theorem det_j1 {H0 H : Heap} {Q : Post} {b : Nat} {v : Value} {us : List Value} {xs : List (List Int)} {n i : Nat} {last turn D : Int} {J : St [4, 5, 16] → Heap → Prop} (h : Ab.Loc H0 [.box b [.int .i64 (i : Nat)], .rowsE RS v us xs] H) (hs : Sq n xs) (hn : n ≤ 5) (hi : i < n) (hul : us.length = n)
    (bi : BInv n 200 D i last turn (mSub i xs)) (hp : mAt xs i i ≠ 0)
    (hJ : ∀ H', Ab.Loc H0 [.rowsE RS v us (elimRows i (n - (i + 1)) n last xs)] H' → J (.int .i64 (mAt xs i i), .int .i64 turn, .int .i64 ((i + 1 : Nat) : Int), ()) H') :
    f41.j1 Q (pt b 0) v (.int .i64 last) (.int .i64 (i : Nat)) J (.int .i64 turn) H := by
  have hl1 := hs.1
  have hix : i < xs.length := by omega
  unfold f41.j1
  refine Wl.get h rfl (Wi.add (by unfold I64; omega) (Wl.subE (l := i + 1) h (by omega) (by omega) fun w hw => Wi.lenSub hw ?_))
  rw [hl1] at hw
  have hbnd : i + 1 < n → ∀ r c, i ≤ r → r < n → i ≤ c → c < n → (mAt xs r c).natAbs ≤ 1600000000 := fun hin r c h1 h2 h3 h4 => by
    have := bi.abs (r := r - i) (c := c - i) (by omega) (by omega)
    have e : mSub i xs (r - i) (c - i) = mAt xs r c := by simp only [mSub]; rw [show i + (r - i) = r by omega, show i + (c - i) = c by omega]
    rw [e] at this
    exact Nat.le_trans this (pow200' (by omega))
  refine W.for_rule (n - (i + 1)) (fun x s H => s = (.int .i64 (x : Nat), ()) ∧ Ab.Loc H0 [.box b [.int .i64 (i : Nat)], .rowsE RS v us (elimRows i x n last xs)] H) ⟨rfl, by rw [elimRows_start]; exact h⟩ ?_
  rintro x s H J2 hx ⟨rfl, h⟩ hJ2
  have hrl := elimRows_len i x n last xs
  have hsq := elimRows_sq (i := i) (x := x) (m := n) (last := last) hs
  refine Wi.lssC (fun hlt => Wi.tru ?_) fun hge => Wi.fls ?_
  · have hxn : x < n - (i + 1) := by omega
    have hin : i + 1 < n := by omega
    have hax : i + 1 + x < xs.length := by omega
    have hra := hs.2 _ (List.getElem_mem hax)
    have ea := elimRows_at (i := i) (x := x) (n := n) (last := last) hax (.inr (by omega))
    refine Wl.atSubE rfl h (l := i + 1) (by rw [hrl, hl1]; exact hw) (by omega) fun u hu hu2 => ?_
    rw [ea] at hu2
    have hii : i < xs[i + 1 + x].length := by omega
    have e2 : xs[i + 1 + x][i] = mAt xs (i + 1 + x) i := (mAt_at hax hii).symm
    refine Wl.get h rfl (Wl.atIntH hu2 hii fun _ => Wl.get h rfl ?_)
    rw [e2]
    have er : ∀ r c, i ≤ r → r < n → i ≤ c → c < n → mAt (elimRows i x n last xs) r c = if r ≤ i ∨ i + x < r then mAt xs r c else mAt (elimRows i x n last xs) r c := fun r c h1 h2 h3 h4 => by
      split
      · rename_i g
        simp only [mAt]
        rw [rowD (show r < (elimRows i x n last xs).length by omega), rowD (show r < xs.length by omega), elimRows_at (by omega) g]
      · rfl
    refine det_l3' h hsq hn (show i < i + 1 + x by omega) (by omega) hu bi.hl (hbnd hin _ _ (by omega) (by omega) (by omega) (by omega)) (fun c h1 h2 => ?_) (fun c h1 h2 => ?_) fun H h => Wi.add (by unfold I64; omega) (hJ2 _ _ hxn ⟨rfl, ?_⟩)
    · rw [er i c (by omega) hi h1 h2, if_pos (.inl (Nat.le_refl _))]
      exact hbnd hin i c (by omega) hi h1 h2
    · rw [er _ c (by omega) (by omega) h1 h2, if_pos (.inr (by omega))]
      exact hbnd hin _ c (by omega) (by omega) h1 h2
    · have es := elimRows_step (n := n) (last := last) hax
      have e4 : (elimRows i x n last xs).getD i [] = xs.getD i [] := by
        rw [rowD (by omega), rowD hix, elimRows_at hix (.inl (Nat.le_refl _))]
      have e5 : (elimRows i x n last xs).getD (i + 1 + x) [] = xs[i + 1 + x] := by rw [rowD (by omega), ea]
      rw [e4, e5] at h
      have e6 : xs[i + 1 + x].getD i 0 = mAt xs (i + 1 + x) i := by rw [atD hii, e2]
      rw [e6] at es
      rw [es] at h
      exact h
  · have : x = n - (i + 1) := by omega
    subst this
    have hii : i < xs[i].length := by rw [hs.2 _ (List.getElem_mem hix)]; omega
    refine Wl.get h rfl (Wl.atRowE rfl h (by omega) fun u hu hu2 => ?_)
    rw [elimRows_at hix (.inl (Nat.le_refl _))] at hu2
    refine Wl.get h rfl (Wl.atIntH hu2 hii fun _ => Wi.add (by unfold I64; omega) ?_)
    rw [show xs[i][i] = mAt xs i i from (mAt_at hix hii).symm]
    exact hJ _ h.tl

/-- The search for a row to step with. -/
theorem det_find {H0 H : Heap} {Q : Post} {b : Nat} {v w : Value} {us : List Value} {xs : List (List Int)} {n i : Nat} (h : Ab.Loc H0 [.box b [.int .i64 (i : Nat)], .rowsE RS v us xs] H) (hs : Sq n xs) (hi : i < n) (hn : n ≤ 5) (hw : SubOf v w i n)
    (h1 : (∀ r, r < n - i → mSub i xs r 0 = 0) → Q (.int .i64 (-1)) H) (h2 : ∀ k : Nat, i + k < n → mAt xs (i + k) i ≠ 0 → Q (.int .i64 (k : Nat)) H) :
    Runs Tryz.prog 90 #[w, .func (.func 91) #[] #[pt b 0]] H Q := by
  have hl1 := hs.1
  refine f90.enter (Wi.lenSub hw ?_)
  refine W.for_rule (n - i) (fun x s H' => H' = H ∧ s = (.int .i64 (x : Nat), ()) ∧ ∀ r, r < x → mSub i xs r 0 = 0) ⟨rfl, rfl, fun r hr => by omega⟩ ?_
  rintro x s H' J hx ⟨rfl, rfl, hz⟩ hJ
  refine Wi.lssC (fun hlt => Wi.tru ?_) fun hge => Wi.fls ?_
  · have hax : i + x < xs.length := by omega
    have hra := hs.2 _ (List.getElem_mem hax)
    have hii : i < xs[i + x].length := by omega
    have e2 : xs[i + x][i] = mAt xs (i + x) i := (mAt_at hax hii).symm
    refine Wl.atSubE rfl h (l := i) (by rw [hl1]; exact hw) (by omega) fun u hu hu2 => Wi.callV (f91.enter (Wl.get h rfl (Wl.atIntH hu2 hii fun _ => ?_)))
    rw [e2]
    refine Wi.neqC (fun hne => Wi.tru (h2 x (by omega) hne)) fun he => Wi.fls (Wi.add (by unfold I64; omega) (hJ _ _ (by omega) ⟨rfl, rfl, fun r hr => ?_⟩))
    by_cases e : r = x
    · subst e; exact he
    · exact hz r (by omega)
  · have : x = n - i := by omega
    subst this
    exact h1 hz

theorem fn41 {H0 : Heap} {Q : Post} {v0 : Value} {rows : List (List Int)} {n : Nat} (hr : Has RSS H0 [v0] rows) (hs : Sq n rows) (hn : n ≤ 5) (hR : ∀ i, i < n → nsum n (fun j => (mAt rows i j).natAbs) ≤ 200)
    (hQ : ∀ H', H0.Le H' → Q (.int .i64 (det n (mAt rows))) H') : Runs Tryz.prog 41 #[v0] H0 Q := by
  have hl1 := hs.1
  refine f41.enter (Wi.call (fn83 hr ⟨by omega, fun r hr => by rw [hs.2 r hr]; omega⟩ fun H v g => ?_))
  have h := (Loc.start H0).addG g
  obtain ⟨us, hus, h⟩ := h.headsE (i := 0) rfl rfl
  refine Wl.len h ?_
  refine W.for_rule n (fun i s H => ∃ last turn us xs, s = (.int .i64 last, .int .i64 turn, .int .i64 (i : Nat), ()) ∧ Ab.Loc H0 [.rowsE RS v us xs] H ∧ Sq n xs ∧ us.length = n ∧ BInv n 200 (det n (mAt rows)) i last turn (mSub i xs) ∧ last.natAbs ≤ 200 ^ i)
    ⟨1, 1, us, rows, rfl, h, hs, by omega, (BInv.start hR).congr fun r c _ _ => by simp only [mSub, Nat.zero_add], by decide⟩ ?_
  rintro i s H J hi ⟨last, turn, us, xs, rfl, h, hs, hul, bi, hla⟩ hJ
  have hl2 := hs.1
  have htu := bi.ht
  refine Wi.lssC (fun hlt => Wi.tru ?_) fun hge => Wi.fls ?_
  · have hin : i < n := by omega
    have next : ∀ (H : Heap) (b : Nat) (us : List Value) (xs : List (List Int)) (turn : Int), Ab.Loc H0 [.box b [.int .i64 (i : Nat)], .rowsE RS v us xs] H → Sq n xs → us.length = n → BInv n 200 (det n (mAt rows)) i last turn (mSub i xs) → mAt xs i i ≠ 0 →
        f41.j1 Q (pt b 0) v (.int .i64 last) (.int .i64 (i : Nat)) J (.int .i64 turn) H := fun H b us xs turn h hs hul bi hp => by
      refine det_j1 h hs hn hin hul bi hp fun H' h' => hJ _ _ hin ⟨_, _, us, _, rfl, h', elimRows_sq hs, hul, bi.elim hs hin hp, ?_⟩
      have := bi.abs (r := 0) (c := 0) (by omega) (by omega)
      simpa [mSub] using this
    refine Wl.new h fun H b h => Wl.put h rfl (by simp) fun H h => Wl.get h rfl (Wl.subE (l := i) h (by omega) (by omega) fun w hw => Wi.call (det_find h hs hin hn (by rw [← hl2]; exact hw) (fun hz => ?_) fun k hk hne => ?_))
    · refine Wi.lssC (fun _ => Wi.tru ?_) fun h => by omega
      have := hQ H h.le
      rw [bi.none hin hz] at this
      exact this
    · refine Wi.lssC (fun h => by omega) fun _ => Wi.fls (Wi.gtrC (fun hgt => Wi.tru ?_) fun hle => Wi.fls ?_)
      · have hkx : i + k < xs.length := by omega
        have hix : i < xs.length := by omega
        refine Wl.get h rfl (Wl.get h rfl (Wi.add (by unfold I64; omega) (Wl.get h rfl (Wi.add (by unfold I64; omega) ?_))))
        refine Wl.atRowE (a := i + k) rfl h hkx fun u2 hu2 hr2 => Wl.get h rfl (Wl.atRowE rfl h hix fun u1 hu1 hr1 => ?_)
        have hc1 := hr1.cell1
        have hc2 := hr2.cell1
        have h := h.loose rfl (j := 1) rfl (by omega)
        refine Wl.putX h (j := 1) rfl hix hc2 fun H h => Wi.chk (Wl.get h rfl ⟨rfl, rfl⟩) (Wl.putX (a := i + k) h (j := 1) rfl hkx hc1 fun H h => Wi.neg (by rcases htu with e | e <;> rw [e] <;> unfold I64 <;> omega) ?_)
        have h := h.tight rfl (j := 1) rfl hix hkx (by omega) hu1 hu2 (by omega)
        have e1 : xs[i + k] = xs.getD (i + k) [] := (rowD hkx).symm
        have e2 : xs[i] = xs.getD i [] := (rowD hix).symm
        rw [e1, e2] at h
        have hl3 : (xs.getD (i + k) []).length = n := by rw [← e1]; exact hs.2 _ (List.getElem_mem hkx)
        have hl4 : (xs.getD i []).length = n := by rw [← e2]; exact hs.2 _ (List.getElem_mem hix)
        refine next _ _ _ _ _ h ((hs.set hl3).set hl4) (by simp; omega) (bi.swapped hs hk (by omega)) ?_
        rw [mAt_set (by rw [List.length_set]; omega), if_neg (by omega), mAt_set hix, if_pos rfl]
        exact hne
      · have : k = 0 := by omega
        subst this
        exact next _ _ _ _ _ h hs hul bi hne
  · have : i = n := by omega
    subst this
    have e := bi.done (Nat.le_refl _)
    have hla5 := Nat.le_trans hla (pow200 hn)
    refine Wi.mul ?_ ?_
    · rcases htu with e | e <;> rw [e] <;> unfold I64 <;> omega
    · rw [← e]
      exact hQ _ h.le

end Go.Proofs.YtgdiebnokgnniaaGreatDoor
/-! The laws' helpers for problems. No condition. -/
namespace Go.Proofs.YtgdiebnokgnniaaGreatDoor
open Go.Ab



abbrev RProblem : Rd (List (List Int) × List Int) := Rd.pair RSS RS
abbrev Prob := List (List Int) × List Int
abbrev mkProblem := mkp mkSS szSS mkS
abbrev szProblem := szp szSS szS
abbrev wProblem := szp wSS (List.length (α := Int))

theorem prob_cells {H : Heap} {bs : List Nat} {cs : List Value} {p : Prob} (h : RProblem.rel H bs cs p) : ∃ u1 u2 b1 b2, cs = [u1, u2] ∧ bs = b1 ++ b2 ∧ RSS.rel H b1 [u1] p.1 ∧ RS.rel H b2 [u2] p.2 := by
  obtain ⟨b1, b2, c1, c2, hb, hc, h1, h2⟩ := h
  obtain ⟨u1, rfl⟩ := List.length_eq_one_iff.1 (RSS.len h1)
  obtain ⟨u2, rfl⟩ := List.length_eq_one_iff.1 (RS.len h2)
  exact ⟨u1, u2, b1, b2, hc, hb, h1, h2⟩

theorem hasProb {H : Heap} {cs : List Value} {p : Prob} (h : Has RProblem H cs p) : ∃ u1 u2, cs = [u1, u2] ∧ Has RSS H [u1] p.1 ∧ Has RS H [u2] p.2 := by
  obtain ⟨bs, h⟩ := h
  obtain ⟨u1, u2, b1, b2, h1, _, h3, h4⟩ := prob_cells h
  exact ⟨u1, u2, h1, ⟨_, h3⟩, ⟨_, h4⟩⟩

end Go.Proofs.YtgdiebnokgnniaaGreatDoor

/-! Contracts of the program's IsMatrix, IsProblem and isSet. No condition. -/
namespace Go.Proofs.YtgdiebnokgnniaaGreatDoor
open Go.Ab

/- loop.example/g01343/impl.IsMatrix -/
def f45.w (Q : Post) (m_0 : Value) (H : Heap) : Prop :=
  W.len m_0 H fun v1 H =>
  W.call Tryz.prog (.func (.func 68) #[] #[]) #[v1, (.int .i64 1), (.int .i64 5)] H fun v2 H =>
  W.guarded v2 true (fun H k => k m_0 H) H fun v3 H =>
  W.guarded v2 true (fun H k => k m_0 H) H fun v4 H =>
  W.guarded v2 true (fun H k => W.len v4 H k) H fun v5 H =>
  W.guarded v2 true (fun H k => W.call Tryz.prog (.func (.func 95) #[] #[]) #[v3, v5] H k) H fun v6 H =>
  W.pick v2 v6 (.bool false) H fun v7 H =>
  W.guarded v7 true (fun H k => k m_0 H) H fun v8 H =>
  W.guarded v7 true (fun H k => W.call Tryz.prog (.func (.func 96) #[] #[]) #[v8, (.func (.func 97) #[] #[])] H k) H fun v9 H =>
  W.guarded v7 true (fun H k => W.un .not v9 H k) H fun v10 H =>
  W.pick v7 v10 (.bool false) H fun v11 H =>
  Q v11 H
theorem f45.enter {Q : Post} {m_0 : Value} {H : Heap} (h : f45.w Q m_0 H) : Runs Tryz.prog 45 #[m_0] H Q :=
  fn_enter (ann := []) (by kernel_rfl) Tryz.func45 rfl (by kernel_rfl) h (by kernel_rfl)

/- loop.example/g01343/impl.IsMatrix$1 -/
def f97.w (Q : Post) (row_0 : Value) (H : Heap) : Prop :=
  W.call Tryz.prog (.func (.func 46) #[] #[]) #[row_0, (.int .i64 20)] H fun v1 H =>
  W.un .not v1 H fun v2 H =>
  Q v2 H
theorem f97.enter {Q : Post} {row_0 : Value} {H : Heap} (h : f97.w Q row_0 H) : Runs Tryz.prog 97 #[row_0] H Q :=
  fn_enter (ann := []) (by kernel_rfl) Tryz.func97 rfl (by kernel_rfl) h (by kernel_rfl)

/- loop.example/g01343/impl.IsProblem -/
def f11.w (Q : Post) (p_0 : Value) (H : Heap) : Prop :=
  W.box p_0 27 H fun v1 H =>
  W.fieldAddr 0 v1 H fun v2 H =>
  W.get v2 H fun v3 H =>
  W.call Tryz.prog (.func (.func 45) #[] #[]) #[v3] H fun v4 H =>
  W.guarded v4 true (fun H k => W.fieldAddr 1 v1 H k) H fun v5 H =>
  W.guarded v4 true (fun H k => W.get v5 H k) H fun v6 H =>
  W.guarded v4 true (fun H k => W.len v6 H k) H fun v7 H =>
  W.guarded v4 true (fun H k => W.fieldAddr 0 v1 H k) H fun v8 H =>
  W.guarded v4 true (fun H k => W.get v8 H k) H fun v9 H =>
  W.guarded v4 true (fun H k => W.len v9 H k) H fun v10 H =>
  W.guarded v4 true (fun H k => W.bin .eql v7 v10 H k) H fun v11 H =>
  W.pick v4 v11 (.bool false) H fun v12 H =>
  W.guarded v12 true (fun H k => W.fieldAddr 1 v1 H k) H fun v13 H =>
  W.guarded v12 true (fun H k => W.get v13 H k) H fun v14 H =>
  W.guarded v12 true (fun H k => W.call Tryz.prog (.func (.func 46) #[] #[]) #[v14, (.int .i64 100)] H k) H fun v15 H =>
  W.pick v12 v15 (.bool false) H fun v16 H =>
  Q v16 H
theorem f11.enter {Q : Post} {p_0 : Value} {H : Heap} (h : f11.w Q p_0 H) : Runs Tryz.prog 11 #[p_0] H Q :=
  fn_enter (ann := []) (by kernel_rfl) Tryz.func11 rfl (by kernel_rfl) h (by kernel_rfl)


/-- A matrix: square, of 1 to 5 rows, numbers of at most 20. -/
def isMat (m : List (List Int)) : Bool := (inR 1 5 m.length && isSq m.length m) && m.all (allUp 20)

theorem fn45 {H : Heap} {Q : Post} {bs : List Nat} {v : Value} {m : List (List Int)} (hr : RSS.rel H bs [v] m) (h : ∀ H', H.Le H' → Q (.bool (isMat m)) H') : Runs Tryz.prog 45 #[v] H Q := by
  refine f45.enter ?_
  unfold f45.w
  obtain ⟨p1, e1, g1⟩ := Rd.slice_val hr
  simp only [List.cons.injEq, and_true] at g1
  rw [g1]
  refine Wi.len (Wi.call (fn68 ?_))
  rw [← g1]
  unfold isMat at h
  have tail : ∀ (b : Bool) (H1 : Heap), H.Le H1 → (∀ H', H1.Le H' → Q (.bool (b && m.all (allUp 20))) H') →
      W.guarded (.bool b) true (fun H k => k v H) H1 fun v8 H => W.guarded (.bool b) true (fun H k => W.call Tryz.prog (.func (.func 96) #[] #[]) #[v8, (.func (.func 97) #[] #[])] H k) H fun v9 H =>
        W.guarded (.bool b) true (fun H k => W.un .not v9 H k) H fun v10 H => W.pick (.bool b) v10 (.bool false) H fun v11 H => Q v11 H := by
    intro b H1 l1 h
    cases b with
    | false => exact Wi.gF (Wi.gF (Wi.gF (Wi.pickF (h H1 (.refl _)))))
    | true =>
      refine Wi.gT (Wi.gT (Wi.call (contains96 _ _ _ _ _ (fun r => !allUp 20 r) _ (Rd.le _ hr l1) ?_ fun H2 l2 => Wi.gT (Wi.not (Wi.pickT ?_)))))
      · intro H' bs u x K l hr hK
        exact Wi.call (f97.enter (Wi.call (fn46 (by unfold I64; omega) hr fun H2 l2 => Wi.not (hK H2 l2))))
      · have e : (!m.any fun r => !allUp 20 r) = m.all (allUp 20) := by rw [← List.all_eq_not_any_not]
        rw [e]
        exact h H2 l2
  cases hb : inR 1 5 m.length with
  | false =>
    rw [hb] at h
    exact Wi.gF (Wi.gF (Wi.gF (Wi.gF (Wi.pickF (tail false H (.refl _) h)))))
  | true =>
    rw [hb, Bool.true_and] at h
    refine Wi.gT (Wi.gT (Wi.gT ?_))
    rw [g1]
    refine Wi.len ?_
    rw [← g1]
    refine Wi.gT (Wi.call (fn95 hr fun H1 l1 => Wi.pickT (tail _ H1 l1 fun H2 l2 => h H2 (l1.trans l2))))


/-- A problem. -/
def isProb (p : Prob) : Bool := (isMat p.1 && decide (p.2.length = p.1.length)) && allUp 100 p.2

theorem fn11 {H : Heap} {Q : Post} {bs : List Nat} {cs : List Value} {p : Prob} (hr : RProblem.rel H bs cs p) (h : ∀ H', H.Le H' → Q (.bool (isProb p)) H') : Runs Tryz.prog 11 #[.agg cs.toArray] H Q := by
  obtain ⟨u1, u2, b1, b2, rfl, _, hr1, hr2⟩ := prob_cells hr
  refine f11.enter ?_
  unfold f11.w
  obtain ⟨p1, e1, g1⟩ := Rd.slice_val hr1
  obtain ⟨p2, e2, g2⟩ := Rd.slice_val hr2
  simp only [List.cons.injEq, and_true] at g1 g2
  refine Wi.box fun H1 l1 n1 k1 => Wi.fieldAddr0 (Wi.get k1 rfl (Wi.call (fn45 (Rd.le _ hr1 l1) fun H2 l2 => ?_)))
  have k2 := l2.at k1 (by omega)
  unfold isProb at h
  have l12 := l1.trans l2
  cases hb : isMat p.1 with
  | false =>
    rw [hb] at h
    exact Wi.gF (Wi.gF (Wi.gF (Wi.gF (Wi.gF (Wi.gF (Wi.gF (Wi.pickF (Wi.gF (Wi.gF (Wi.gF (Wi.pickF (h H2 l12))))))))))))
  | true =>
    rw [hb, Bool.true_and] at h
    refine Wi.gT (Wi.fieldAddr0 (Wi.gT (Wi.get k2 rfl (Wi.gT ?_))))
    rw [g2]
    refine Wi.len (Wi.gT (Wi.fieldAddr0 (Wi.gT (Wi.get k2 rfl (Wi.gT ?_)))))
    rw [g1]
    refine Wi.len (Wi.gT (Wi.eql (Wi.pickT ?_)))
    rw [int_beq]
    cases hl : decide (p.2.length = p.1.length) with
    | false =>
      rw [hl] at h
      exact Wi.gF (Wi.gF (Wi.gF (Wi.pickF (h H2 l12))))
    | true =>
      rw [hl, Bool.true_and] at h
      exact Wi.gT (Wi.fieldAddr0 (Wi.gT (Wi.get k2 rfl (Wi.gT (Wi.call (fn46 (by unfold I64; omega) (Rd.le _ hr2 l12) fun H3 l3 => Wi.pickT (h H3 (l12.trans l3))))))))

end Go.Proofs.YtgdiebnokgnniaaGreatDoor

/-! Contracts of the reference's l01In, l01Matrix and l01Is. No condition. -/
namespace Go.Proofs.YtgdiebnokgnniaaGreatDoor
open Go.Ab

/- loop.example/g01343/spec.l01Matrix -/
def f101.l2 (Q : Post) (v1 : Value) (m_0 : Value) (i_4 : Value) (I1 : St [4] → Heap → Prop) (I2 : St [5] → Heap → Prop) (k_5 : Value) (H : Heap) : Prop :=
  W.bin .lss k_5 v1 H fun v11 H =>
  W.cond v11 H
  (fun H => W.indexAddr 1 m_0 i_4 H fun v12 H =>
   W.get v12 H fun v13 H =>
   W.indexAddr 1 v13 k_5 H fun v14 H =>
   W.get v14 H fun v15 H =>
   W.call Tryz.prog (.func (.func 70) #[] #[]) #[v15, (.int .i64 (-20)), (.int .i64 20)] H fun v16 H =>
   W.un .not v16 H fun v17 H =>
   W.cond v17 H
   (fun H => Q (.bool false) H)
   (fun H => W.bin .add k_5 (.int .i64 1) H fun v18 H =>
    I2 (v18, ()) H))
  (fun H => W.bin .add i_4 (.int .i64 1) H fun v19 H =>
   I1 (v19, ()) H)
def f101.l1 (Q : Post) (v1 : Value) (m_0 : Value) (I1 : St [4] → Heap → Prop) (i_4 : Value) (H : Heap) : Prop :=
  W.bin .lss i_4 v1 H fun v6 H =>
  W.cond v6 H
  (fun H => W.indexAddr 1 m_0 i_4 H fun v7 H =>
   W.get v7 H fun v8 H =>
   W.len v8 H fun v9 H =>
   W.bin .neq v9 v1 H fun v10 H =>
   W.cond v10 H
   (fun H => Q (.bool false) H)
   (fun H => W.loop (S := St [5]) (fun I2 s H => f101.l2 Q v1 m_0 i_4 I1 I2 s.1 H) ((.int .i64 0), ()) H))
  (fun H => Q (.bool true) H)
def f101.w (Q : Post) (m_0 : Value) (H : Heap) : Prop :=
  W.len m_0 H fun v1 H =>
  W.bin .lss v1 (.int .i64 1) H fun v2 H =>
  W.guarded v2 false (fun H k => k v1 H) H fun v3 H =>
  W.guarded v2 false (fun H k => W.bin .gtr v3 (.int .i64 5) H k) H fun v4 H =>
  W.pick v2 (.bool true) v4 H fun v5 H =>
  W.cond v5 H
  (fun H => Q (.bool false) H)
  (fun H => W.loop (S := St [4]) (fun I1 s H => f101.l1 Q v1 m_0 I1 s.1 H) ((.int .i64 0), ()) H)
theorem f101.enter {Q : Post} {m_0 : Value} {H : Heap} (h : f101.w Q m_0 H) : Runs Tryz.prog 101 #[m_0] H Q :=
  fn_enter (ann := [(5, [4]), (10, [5])]) (by kernel_rfl) Tryz.func101 rfl (by kernel_rfl) h (by kernel_rfl)

/- loop.example/g01343/spec.l01Is -/
def f47.l1 (Q : Post) (v1 : Value) (I1 : St [3] → Heap → Prop) (i_3 : Value) (H : Heap) : Prop :=
  W.fieldAddr 1 v1 H fun v14 H =>
  W.get v14 H fun v15 H =>
  W.len v15 H fun v16 H =>
  W.bin .lss i_3 v16 H fun v17 H =>
  W.cond v17 H
  (fun H => W.fieldAddr 1 v1 H fun v18 H =>
   W.get v18 H fun v19 H =>
   W.indexAddr 1 v19 i_3 H fun v20 H =>
   W.get v20 H fun v21 H =>
   W.call Tryz.prog (.func (.func 70) #[] #[]) #[v21, (.int .i64 (-100)), (.int .i64 100)] H fun v22 H =>
   W.un .not v22 H fun v23 H =>
   W.cond v23 H
   (fun H => Q (.bool false) H)
   (fun H => W.bin .add i_3 (.int .i64 1) H fun v24 H =>
    I1 (v24, ()) H))
  (fun H => Q (.bool true) H)
def f47.w (Q : Post) (p_0 : Value) (H : Heap) : Prop :=
  W.box p_0 27 H fun v1 H =>
  W.fieldAddr 0 v1 H fun v2 H =>
  W.get v2 H fun v3 H =>
  W.call Tryz.prog (.func (.func 101) #[] #[]) #[v3] H fun v4 H =>
  W.un .not v4 H fun v5 H =>
  W.guarded v5 false (fun H k => W.fieldAddr 1 v1 H k) H fun v6 H =>
  W.guarded v5 false (fun H k => W.get v6 H k) H fun v7 H =>
  W.guarded v5 false (fun H k => W.len v7 H k) H fun v8 H =>
  W.guarded v5 false (fun H k => W.fieldAddr 0 v1 H k) H fun v9 H =>
  W.guarded v5 false (fun H k => W.get v9 H k) H fun v10 H =>
  W.guarded v5 false (fun H k => W.len v10 H k) H fun v11 H =>
  W.guarded v5 false (fun H k => W.bin .neq v8 v11 H k) H fun v12 H =>
  W.pick v5 (.bool true) v12 H fun v13 H =>
  W.cond v13 H
  (fun H => Q (.bool false) H)
  (fun H => W.loop (S := St [3]) (fun I1 s H => f47.l1 Q v1 I1 s.1 H) ((.int .i64 0), ()) H)
theorem f47.enter {Q : Post} {p_0 : Value} {H : Heap} (h : f47.w Q p_0 H) : Runs Tryz.prog 47 #[p_0] H Q :=
  fn_enter (ann := [(4, [3])]) (by kernel_rfl) Tryz.func47 rfl (by kernel_rfl) h (by kernel_rfl)


theorem isMat_eq (m : List (List Int)) : isMat m = (decide (1 ≤ m.length) && decide (m.length ≤ 5) && m.all (fun r => decide (r.length = m.length) && r.all (inR (-20) 20))) := by
  unfold isMat isSq inR allUp inR
  have : (m.all fun r => decide (r.length = m.length) && r.all fun n => decide (-20 ≤ n) && decide (n ≤ 20)) = (m.all (fun r => decide (r.length = m.length)) && m.all fun xs => xs.all fun n => decide (-20 ≤ n) && decide (n ≤ 20)) := by
    induction m with
    | nil => rfl
    | cons x xs ih =>
      rw [Bool.eq_iff_iff]
      simp only [List.all_eq_true, Bool.and_eq_true, decide_eq_true_eq]
      constructor
      · intro h; exact ⟨fun r hr => (h r hr).1, fun r hr n hn => (h r hr).2 n hn⟩
      · intro h r hr; exact ⟨h.1 r hr, fun n hn => h.2 r hr n hn⟩
  rw [this]
  simp
  have e : decide (1 ≤ (m.length : Int)) = decide (1 ≤ m.length) := by
    by_cases h : 1 ≤ m.length <;> simp <;> omega
  have e2 : decide ((m.length : Int) ≤ 5) = decide (m.length ≤ 5) := by
    by_cases h : m.length ≤ 5 <;> simp <;> omega
  rw [e, e2]
  simp [Bool.and_assoc]

theorem fn101 {H : Heap} {Q : Post} {bs : List Nat} {v : Value} {m : List (List Int)} (hr : RSS.rel H bs [v] m) (h : ∀ H', H.Le H' → Q (.bool (isMat m)) H') : Runs Tryz.prog 101 #[v] H Q := by
  refine f101.enter ?_
  unfold f101.w
  refine Wi.lenOf hr (Wi.lss ?_)
  rw [isMat_eq] at h
  have hT : m.length < 1 ∨ 5 < m.length → ∀ H', H.Le H' → Q (.bool false) H' := fun hc H' l => by
    have := h H' l
    rw [show (decide (1 ≤ m.length) && decide (m.length ≤ 5) && m.all (fun r => decide (r.length = m.length) && r.all (inR (-20) 20))) = false by
      rw [show (decide (1 ≤ m.length) && decide (m.length ≤ 5)) = false by rw [Bool.and_eq_false_iff]; exact hc.elim (fun h => .inl (decide_eq_false (by omega))) fun h => .inr (decide_eq_false (by omega))]; rfl] at this
    exact this
  have body : 1 ≤ m.length → m.length ≤ 5 → W.loop (S := St [4]) (fun I1 s H => f101.l1 Q (.int .i64 m.length) v I1 s.1 H) ((.int .i64 0), ()) H := by
    intro h1 h5
    have hF : ∀ r ∈ m, (decide (r.length = m.length) && r.all (inR (-20) 20)) = false → ∀ H', H.Le H' → Q (.bool false) H' := fun r hr hf H' l => by
      have := h H' l
      rw [show (decide (1 ≤ m.length) && decide (m.length ≤ 5) && m.all (fun r => decide (r.length = m.length) && r.all (inR (-20) 20))) = false by
        rw [Bool.and_eq_false_iff]; right; rw [List.all_eq_false]; exact ⟨r, hr, by simp [hf]⟩] at this
      exact this
    refine W.loop_rule (fun s H' => ∃ i : Nat, s = (.int .i64 i, ()) ∧ i ≤ m.length ∧ H.Le H' ∧ ∀ (j : Nat) (hj : j < i) (g : j < m.length), (decide (m[j].length = m.length) && m[j].all (inR (-20) 20)) = true)
      (fun s _ => match s.1 with | .int _ i => m.length - i.toNat | _ => 0) ⟨0, rfl, Nat.zero_le _, .refl _, fun j hj => by omega⟩ ?_
    rintro s H1 ⟨i, rfl, hi, l1, ok⟩
    unfold f101.l1
    refine Wi.lss (Wi.cond (fun hlt => ?_) fun hge => ?_)
    · have hix : i < m.length := by simp only [decide_eq_true_eq] at hlt; omega
      refine Wi.at1 rfl (Rd.le _ hr l1) hix fun u bu hu => Wi.lenOf hu (Wi.neq ?_)
      rw [int_bne]
      refine Wi.cond (fun hne => ?_) fun heq => ?_
      · exact hF _ (List.getElem_mem hix) (by simp at hne; simp [hne]) H1 l1
      · have hlen : m[i].length = m.length := by simpa using heq
        refine W.loop_rule (fun s H' => ∃ k : Nat, s = (.int .i64 k, ()) ∧ k ≤ m.length ∧ H1.Le H' ∧ ∀ (j : Nat) (hj : j < k) (g : j < m[i].length), inR (-20) 20 m[i][j] = true)
          (fun s _ => match s.1 with | .int _ i => m.length - i.toNat | _ => 0) ⟨0, rfl, Nat.zero_le _, .refl _, fun j hj => by omega⟩ ?_
        rintro s H2 ⟨k, rfl, hk, l2, ok2⟩
        unfold f101.l2
        have l12 := l1.trans l2
        refine Wi.lss (Wi.cond (fun hlt => ?_) fun hge => ?_)
        · have hkx : k < m[i].length := by simp only [decide_eq_true_eq] at hlt; omega
          refine Wi.at1 rfl (Rd.le _ hr l12) hix fun u' bu' hu' => Wi.atInt hu' hkx (Wi.call (fn70 (Wi.not (Wi.cond (fun hn => ?_) fun hy => ?_))))
          · refine hF _ (List.getElem_mem hix) ?_ H2 l12
            rw [Bool.and_eq_false_iff]; right; rw [List.all_eq_false]
            exact ⟨_, List.getElem_mem hkx, by simpa using hn⟩
          · refine Wi.add (by unfold I64; omega) ⟨⟨k + 1, rfl, by omega, l2, fun j hj g => ?_⟩, by simp only; omega⟩
            by_cases hjk : j < k
            · exact ok2 j hjk g
            · have : j = k := by omega
              subst this
              simpa using hy
        · have hkk : k = m.length := by simp only [decide_eq_false_iff_not] at hge; omega
          refine Wi.add (by unfold I64; omega) ⟨⟨i + 1, rfl, by omega, l12, fun j hj g => ?_⟩, by simp only; omega⟩
          by_cases hji : j < i
          · exact ok j hji g
          · have : j = i := by omega
            subst this
            rw [Bool.and_eq_true]
            refine ⟨by simpa using hlen, ?_⟩
            rw [List.all_eq_true]
            intro x hx
            obtain ⟨n, hn, rfl⟩ := List.mem_iff_getElem.1 hx
            exact ok2 n (by omega) hn
    · have hii : i = m.length := by simp only [decide_eq_false_iff_not] at hge; omega
      have := h H1 l1
      rw [show (decide (1 ≤ m.length) && decide (m.length ≤ 5) && m.all (fun r => decide (r.length = m.length) && r.all (inR (-20) 20))) = true by
        rw [Bool.and_eq_true, Bool.and_eq_true]
        refine ⟨⟨by simpa using h1, by simpa using h5⟩, ?_⟩
        rw [List.all_eq_true]
        intro x hx
        obtain ⟨n, hn, rfl⟩ := List.mem_iff_getElem.1 hx
        exact ok n (by omega) hn] at this
      exact this
  cases hb : decide ((m.length : Int) < 1) with
  | true =>
    exact Wi.nT (Wi.nT (Wi.pickT (Wi.tru (hT (by simp only [decide_eq_true_eq] at hb; omega) H (.refl _)))))
  | false =>
    refine Wi.nF (Wi.nF (Wi.gtr (Wi.pickF (Wi.cond (fun hc => ?_) fun hc => ?_))))
    · exact hT (by simp only [decide_eq_true_eq] at hc; omega) H (.refl _)
    · exact body (by simp only [decide_eq_false_iff_not] at hb; omega) (by simp only [decide_eq_false_iff_not] at hc; omega)

theorem fn47 {H : Heap} {Q : Post} {bs : List Nat} {cs : List Value} {p : Prob} (hr : RProblem.rel H bs cs p) (h : ∀ H', H.Le H' → Q (.bool (isProb p)) H') : Runs Tryz.prog 47 #[.agg cs.toArray] H Q := by
  obtain ⟨u1, u2, b1, b2, rfl, _, hr1, hr2⟩ := prob_cells hr
  refine f47.enter ?_
  unfold f47.w
  unfold isProb at h
  refine Wi.box fun H1 l1 n1 k1 => Wi.fieldAddr0 (Wi.get k1 rfl (Wi.call (fn101 (Rd.le _ hr1 l1) fun H2 l2 => Wi.not ?_)))
  have k2 := l2.at k1 (by omega)
  have l12 := l1.trans l2
  cases hb : isMat p.1 with
  | false =>
    rw [hb] at h
    exact Wi.nT (Wi.nT (Wi.nT (Wi.nT (Wi.nT (Wi.nT (Wi.nT (Wi.pickT (Wi.tru (h H2 l12)))))))))
  | true =>
    rw [hb, Bool.true_and] at h
    refine Wi.nF (Wi.fieldAddr0 (Wi.nF (Wi.get k2 rfl (Wi.nF (Wi.lenOf (Rd.le _ hr2 l12) (Wi.nF (Wi.fieldAddr0 (Wi.nF (Wi.get k2 rfl (Wi.nF (Wi.lenOf (Rd.le _ hr1 l12) (Wi.nF (Wi.neq (Wi.pickF ?_))))))))))))))
    rw [int_bne]
    cases hl : decide (p.2.length = p.1.length) with
    | false =>
      rw [hl] at h
      exact Wi.tru (h H2 l12)
    | true =>
      rw [hl, Bool.true_and] at h
      refine Wi.fls ?_
      have hx := Rd.slice_small hr2
      refine W.loop_rule (fun s H' => ∃ i : Nat, s = (.int .i64 i, ()) ∧ i ≤ p.2.length ∧ H2.Le H' ∧ ∀ (j : Nat) (hj : j < i) (g : j < p.2.length), inR (-100) 100 p.2[j] = true)
        (fun s _ => match s.1 with | .int _ i => p.2.length - i.toNat | _ => 0) ⟨0, rfl, Nat.zero_le _, .refl _, fun j hj => by omega⟩ ?_
      rintro s H3 ⟨i, rfl, hi, l3, ok⟩
      unfold f47.l1
      have k3 := l3.at k2 (by have := l2.next; omega)
      have l13 := l12.trans l3
      refine Wi.fieldAddr0 (Wi.get k3 rfl (Wi.lenOf (Rd.le _ hr2 l13) (Wi.lss (Wi.cond (fun hlt => ?_) fun hge => ?_))))
      · have hix : i < p.2.length := by simp only [decide_eq_true_eq] at hlt; omega
        refine Wi.fieldAddr0 (Wi.get k3 rfl (Wi.atInt (Rd.le _ hr2 l13) hix (Wi.call (fn70 (Wi.not (Wi.cond (fun hn => ?_) fun hy => ?_))))))
        · have := h H3 l13
          rw [show allUp 100 p.2 = false by
            unfold allUp; rw [List.all_eq_false]; exact ⟨_, List.getElem_mem hix, by simpa using hn⟩] at this
          exact this
        · refine Wi.add (by unfold I64; omega) ⟨⟨i + 1, rfl, by omega, l3, fun j hj g => ?_⟩, by simp only; omega⟩
          by_cases hji : j < i
          · exact ok j hji g
          · have : j = i := by omega
            subst this
            simpa using hy
      · have hii : i = p.2.length := by simp only [decide_eq_false_iff_not] at hge; omega
        have := h H3 l13
        rw [show allUp 100 p.2 = true by
          unfold allUp; rw [List.all_eq_true]
          intro x hx
          obtain ⟨n, hn, rfl⟩ := List.mem_iff_getElem.1 hx
          exact ok n (by omega) hn] at this
        exact this

end Go.Proofs.YtgdiebnokgnniaaGreatDoor

/-! Lists that have the numbers 0 to n - 1, each once. -/
namespace Go.Ab

def isOrd (n : Nat) (l : List Int) : Bool := decide (l.length = n) && (List.range n).all (fun i => l.contains (i : Int))

theorem ord_le : ∀ (n : Nat) (l : List Int), l.Nodup → (∀ x ∈ l, 0 ≤ x ∧ x < n) → l.length ≤ n
  | 0, l, _, h => by
    cases l with
    | nil => simp
    | cons x l => have := h x (by simp); omega
  | n + 1, l, hn, h => by
    by_cases hm : (n : Int) ∈ l
    · have h1 := ord_le n (l.erase n) (hn.erase _) fun x hx => by
        have hne : x ≠ n := fun e => by rw [e] at hx; exact (hn.not_mem_erase) hx
        have := h x (List.mem_of_mem_erase hx)
        omega
      rw [List.length_erase_of_mem hm] at h1
      omega
    · have h1 := ord_le n l hn fun x hx => by
        have hne : x ≠ n := fun e => hm (e ▸ hx)
        have := h x hx
        omega
      omega

theorem ord_of_has : ∀ (n : Nat) (l : List Int), l.length = n → (∀ i, i < n → (i : Int) ∈ l) → l.Nodup ∧ ∀ x ∈ l, 0 ≤ x ∧ x < n
  | 0, l, hl, _ => by
    have : l = [] := List.eq_nil_of_length_eq_zero hl
    subst this
    simp
  | n + 1, l, hl, h => by
    have hm := h n (by omega)
    have hp := List.perm_cons_erase hm
    obtain ⟨h1, h2⟩ := ord_of_has n (l.erase n) (by rw [List.length_erase_of_mem hm]; omega) fun i hi => by
      have := h i (by omega)
      exact (List.mem_erase_of_ne (by omega)).2 this
    refine ⟨hp.nodup_iff.2 (List.nodup_cons.2 ⟨fun hx => by have := h2 _ hx; omega, h1⟩), fun x hx => ?_⟩
    rcases List.mem_cons.1 (hp.mem_iff.1 hx) with rfl | hx
    · omega
    · have := h2 x hx; omega

theorem has_of_ord : ∀ (n : Nat) (l : List Int), l.length = n → l.Nodup → (∀ x ∈ l, 0 ≤ x ∧ x < n) → ∀ i, i < n → (i : Int) ∈ l
  | 0, _, _, _, _, i, hi => by omega
  | n + 1, l, hl, hn, h, i, hi => by
    by_cases hm : (n : Int) ∈ l
    · by_cases hin : i = n
      · subst hin; exact hm
      · refine List.mem_of_mem_erase (a := (i : Int)) (b := (n : Int)) (has_of_ord n (l.erase n) (by rw [List.length_erase_of_mem hm]; omega) (hn.erase _) (fun x hx => ?_) i (by omega))
        have hne : x ≠ n := fun e => by rw [e] at hx; exact (hn.not_mem_erase) hx
        have := h x (List.mem_of_mem_erase hx)
        omega
    · have := ord_le n l hn fun x hx => by
        have hne : x ≠ n := fun e => hm (e ▸ hx)
        have := h x hx
        omega
      omega

theorem isOrd_iff {n : Nat} {l : List Int} : isOrd n l = true ↔ l.length = n ∧ l.Nodup ∧ ∀ x ∈ l, 0 ≤ x ∧ x < n := by
  simp only [isOrd, Bool.and_eq_true, decide_eq_true_eq, List.all_eq_true, List.mem_range, List.contains_eq_mem]
  constructor
  · rintro ⟨h1, h2⟩
    exact ⟨h1, ord_of_has n l h1 h2⟩
  · rintro ⟨h1, h2, h3⟩
    exact ⟨h1, has_of_ord n l h1 h2 h3⟩

end Go.Ab

/-! What RenumberProblem comes to; problems' limits. No condition. -/
namespace Go.Proofs.YtgdiebnokgnniaaGreatDoor
open Go.Ab

theorem isProb_rows {p : Prob} (h : isProb p = true) : okRows p.1 ∧ 0 < p.1.length ∧ p.1.length ≤ 5 ∧ p.2.length = p.1.length ∧ (∀ r ∈ p.1, r.length = p.1.length ∧ ∀ x ∈ r, -20 ≤ x ∧ x ≤ 20) ∧ ∀ x ∈ p.2, -100 ≤ x ∧ x ≤ 100 := by
  unfold isProb at h
  rw [isMat_eq] at h
  simp only [Bool.and_eq_true, decide_eq_true_eq, List.all_eq_true, inR, allUp] at h
  obtain ⟨⟨⟨⟨h1, h2⟩, h3⟩, h4⟩, h5⟩ := h
  refine ⟨⟨by omega, fun r hr => ?_⟩, by omega, h2, h4, fun r hr => ?_, fun x hx => by have := h5 x hx; omega⟩
  · have := (h3 r hr).1
    omega
  · exact ⟨(h3 r hr).1, fun x hx => by have := (h3 r hr).2 x hx; omega⟩


/-- The first x numbers of a row put to their new places. -/
def rowPut (l src dst : List Int) (x : Nat) : List Int := (List.range x).foldl (fun d k => d.set (l.getD k 0).toNat (src.getD k 0)) dst

theorem rowPut_zero (l src dst : List Int) : rowPut l src dst 0 = dst := rfl
theorem rowPut_succ (l src dst : List Int) (x : Nat) : rowPut l src dst (x + 1) = (rowPut l src dst x).set (l.getD x 0).toNat (src.getD x 0) := by
  simp [rowPut, List.range_succ]
theorem rowPut_length (l src dst : List Int) (x : Nat) : (rowPut l src dst x).length = dst.length := by
  induction x with
  | zero => rfl
  | succ x ih => rw [rowPut_succ, List.length_set, ih]

/-- The first x rows put to their new places. -/
def probPut (p : Prob) (l : List Int) (x : Nat) : Prob :=
  (List.range x).foldl (fun o i => (o.1.set (l.getD i 0).toNat (rowPut l (p.1.getD i []) (o.1.getD (l.getD i 0).toNat []) p.1.length), o.2.set (l.getD i 0).toNat (p.2.getD i 0))) p

theorem probPut_succ (p : Prob) (l : List Int) (x : Nat) : probPut p l (x + 1) =
    ((probPut p l x).1.set (l.getD x 0).toNat (rowPut l (p.1.getD x []) ((probPut p l x).1.getD (l.getD x 0).toNat []) p.1.length), (probPut p l x).2.set (l.getD x 0).toNat (p.2.getD x 0)) := by
  simp [probPut, List.range_succ]

def renRes (p : Prob) (l : List Int) : Prob × Int :=
  if isProb p then (if isOrd p.2.length l then (probPut p l p.1.length, 0) else (([], []), 2)) else (([], []), 1)


theorem probPut_len (p : Prob) (l : List Int) (x : Nat) : (probPut p l x).1.length = p.1.length ∧ (probPut p l x).2.length = p.2.length := by
  induction x with
  | zero => exact ⟨rfl, rfl⟩
  | succ x ih => rw [probPut_succ]; simp [ih.1, ih.2]

theorem probPut_rows {p : Prob} {l : List Int} {n : Nat} (h : ∀ r ∈ p.1, r.length = n) (x : Nat) : ∀ r ∈ (probPut p l x).1, r.length = n := by
  induction x with
  | zero => exact h
  | succ x ih =>
    rw [probPut_succ]
    intro r hr
    rcases List.mem_or_eq_of_mem_set hr with hr | rfl
    · exact ih r hr
    · by_cases hb : (l.getD x 0).toNat < (probPut p l x).1.length
      · rw [rowPut_length, List.getD_eq_getElem?_getD, List.getElem?_eq_getElem hb]
        exact ih _ (List.getElem_mem hb)
      · rw [List.set_eq_of_length_le (by omega)] at hr
        exact ih _ hr



end Go.Proofs.YtgdiebnokgnniaaGreatDoor
