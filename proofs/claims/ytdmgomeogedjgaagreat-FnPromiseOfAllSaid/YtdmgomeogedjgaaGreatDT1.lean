/- The contract of the program's determinant: Bareiss' steps, rows exchanged where needed. No condition. -/
import Derived.Test.YtdmgomeogedjgaaGreatGDD
import Derived.Test.YtdmgomeogedjgaaGreatGAB
import Derived.Test.YtdmgomeogedjgaaGreatZabG7
import Derived.Test.YtdmgomeogedjgaaGreatZabG8
namespace Go.Proofs.YtdmgomeogedjgaaGreat
open Go.Ab

/- loop.example/g01343/impl.determinant -/
def f122.l3 (Q : Post) (v29 : Value) (v4 : Value) (v1 : Value) (v32 : Value) (last_4 : Value) (x_53 : Value) (I2 : St [53] → Heap → Prop) (I3 : St [11] → Heap → Prop) (c_11 : Value) (H : Heap) : Prop :=
  W.len v29 H fun v34 H =>
  W.bin .lss c_11 v34 H fun v35 H =>
  W.cond v35 H
  (fun H => W.indexAddr 1 v29 c_11 H fun v36 H =>
   W.get v36 H fun v37 H =>
   W.get v4 H fun v38 H =>
   W.indexAddr 1 v1 v38 H fun v39 H =>
   W.get v39 H fun v40 H =>
   W.get v4 H fun v41 H =>
   W.indexAddr 1 v40 v41 H fun v42 H =>
   W.get v42 H fun v43 H =>
   W.bin .mul v37 v43 H fun v44 H =>
   W.get v4 H fun v45 H =>
   W.indexAddr 1 v1 v45 H fun v46 H =>
   W.get v46 H fun v47 H =>
   W.indexAddr 1 v47 c_11 H fun v48 H =>
   W.get v48 H fun v49 H =>
   W.bin .mul v32 v49 H fun v50 H =>
   W.bin .sub v44 v50 H fun v51 H =>
   W.bin .quo v51 last_4 H fun v52 H =>
   W.indexAddr 1 v29 c_11 H fun v53 H =>
   W.put v53 v52 H fun _ H =>
   W.bin .add c_11 (.int .i64 1) H fun v54 H =>
   I3 (v54, ()) H)
  (fun H => W.bin .add x_53 (.int .i64 1) H fun v55 H =>
   I2 (v55, ()) H)
def f122.l2 (Q : Post) (v26 : Value) (v25 : Value) (v4 : Value) (v1 : Value) (last_4 : Value) (x_16 : Value) (turn_5' : Value) (I1 : St [4, 5, 16] → Heap → Prop) (I2 : St [53] → Heap → Prop) (x_53 : Value) (H : Heap) : Prop :=
  W.bin .lss x_53 v26 H fun v27 H =>
  W.cond v27 H
  (fun H => W.indexAddr 1 v25 x_53 H fun v28 H =>
   W.get v28 H fun v29 H =>
   W.get v4 H fun v30 H =>
   W.indexAddr 1 v29 v30 H fun v31 H =>
   W.get v31 H fun v32 H =>
   W.get v4 H fun v33 H =>
   W.loop (S := St [11]) (fun I3 s H => f122.l3 Q v29 v4 v1 v32 last_4 x_53 I2 I3 s.1 H) (v33, ()) H)
  (fun H => W.get v4 H fun v56 H =>
   W.indexAddr 1 v1 v56 H fun v57 H =>
   W.get v57 H fun v58 H =>
   W.get v4 H fun v59 H =>
   W.indexAddr 1 v58 v59 H fun v60 H =>
   W.get v60 H fun v61 H =>
   W.bin .add x_16 (.int .i64 1) H fun v62 H =>
   I1 (v61, turn_5', v62, ()) H)
def f122.j1 (Q : Post) (v4 : Value) (v1 : Value) (last_4 : Value) (x_16 : Value) (I1 : St [4, 5, 16] → Heap → Prop) (turn_5' : Value) (H : Heap) : Prop :=
  W.get v4 H fun v23 H =>
  W.bin .add v23 (.int .i64 1) H fun v24 H =>
  W.slice 1 v1 (some v24) none H fun v25 H =>
  W.len v25 H fun v26 H =>
  W.loop (S := St [53]) (fun I2 s H => f122.l2 Q v26 v25 v4 v1 last_4 x_16 turn_5' I1 I2 s.1 H) ((.int .i64 0), ()) H
def f122.l1 (Q : Post) (v2 : Value) (v1 : Value) (I1 : St [4, 5, 16] → Heap → Prop) (last_4 : Value) (turn_5 : Value) (x_16 : Value) (H : Heap) : Prop :=
  W.bin .lss x_16 v2 H fun v3 H =>
  W.cond v3 H
  (fun H => W.new [(.int .i64 0)] 3 H fun v4 H =>
   W.put v4 x_16 H fun _ H =>
   W.get v4 H fun v5 H =>
   W.slice 1 v1 (some v5) none H fun v6 H =>
   W.call Tryz.prog (.func (.func 111) #[] #[]) #[v6, (.func (.func 146) #[] #[v4])] H fun v7 H =>
   W.bin .lss v7 (.int .i64 0) H fun v8 H =>
   W.cond v8 H
   (fun H => Q (.int .i64 0) H)
   (fun H => W.bin .gtr v7 (.int .i64 0) H fun v9 H =>
    W.cond v9 H
    (fun H => W.get v4 H fun v10 H =>
     W.get v4 H fun v11 H =>
     W.bin .add v11 v7 H fun v12 H =>
     W.get v4 H fun v13 H =>
     W.bin .add v13 v7 H fun v14 H =>
     W.indexAddr 1 v1 v14 H fun v15 H =>
     W.get v15 H fun v16 H =>
     W.get v4 H fun v17 H =>
     W.indexAddr 1 v1 v17 H fun v18 H =>
     W.get v18 H fun v19 H =>
     W.indexAddr 1 v1 v10 H fun v20 H =>
     W.put v20 v16 H fun _ H =>
     W.chk (fun H k => W.get v4 H k) v11 H (W.indexAddr 1 v1 v12 H fun v21 H =>
     W.put v21 v19 H fun _ H =>
     W.un .neg turn_5 H fun v22 H =>
     f122.j1 Q v4 v1 last_4 x_16 I1 v22 H))
    (fun H => f122.j1 Q v4 v1 last_4 x_16 I1 turn_5 H)))
  (fun H => W.bin .mul turn_5 last_4 H fun v63 H =>
   Q v63 H)
def f122.w (Q : Post) (rows_0 : Value) (H : Heap) : Prop :=
  W.call Tryz.prog (.func (.func 129) #[] #[]) #[rows_0] H fun v1 H =>
  W.len v1 H fun v2 H =>
  W.loop (S := St [4, 5, 16]) (fun I1 s H => f122.l1 Q v2 v1 I1 s.1 s.2.1 s.2.2.1 H) ((.int .i64 1), (.int .i64 1), (.int .i64 0), ()) H
theorem f122.enter {Q : Post} {rows_0 : Value} {H : Heap} (h : f122.w Q rows_0 H) : Runs Tryz.prog 122 #[rows_0] H Q :=
  fn_enter (ann := [(4, [4, 5, 16]), (13, [53]), (17, [11])]) (by kernel_rfl) Tryz.func122 rfl (by kernel_rfl) h (by kernel_rfl)

/- loop.example/g01343/impl.determinant$1 -/
def f146.w (Q : Post) (row_0 : Value) (x_1 : Value) (H : Heap) : Prop :=
  W.get x_1 H fun v1 H =>
  W.indexAddr 1 row_0 v1 H fun v2 H =>
  W.get v2 H fun v3 H =>
  W.bin .neq v3 (.int .i64 0) H fun v4 H =>
  Q v4 H
theorem f146.enter {Q : Post} {row_0 : Value} {x_1 : Value} {H : Heap} (h : f146.w Q row_0 x_1 H) : Runs Tryz.prog 146 #[row_0, x_1] H Q :=
  fn_enter (ann := []) (by kernel_rfl) Tryz.func146 rfl (by kernel_rfl) h (by kernel_rfl)


theorem tdiv_i64 {x y : Int} {A : Nat} (h : x.natAbs ≤ A) (hA : A < 9223372036854775808) : I64 (x.tdiv y) := i64A (quoA h) hA

/-- One row's elimination. -/
theorem det_l3' {H0 H : Heap} {Q : Post} {b : Nat} {v u x53 : Value} {us : List Value} {xs : List (List Int)} {n i a : Nat} {last f : Int} {J2 : St [53] → Heap → Prop} (h : Ab.Loc H0 [.box b [.int .i64 (i : Nat)], .rowsE RS v us xs] H) (hs : Sq n xs) (hn : n ≤ 5) (hia : i < a) (han : a < n) (hu : us[a]? = some u) (hl : last ≠ 0)
    (hf : f.natAbs ≤ 1600000000) (hB : ∀ c, i ≤ c → c < n → (mAt xs i c).natAbs ≤ 1600000000) (hB2 : ∀ c, i ≤ c → c < n → (mAt xs a c).natAbs ≤ 1600000000)
    (hJ : ∀ H', Ab.Loc H0 [.box b [.int .i64 (i : Nat)], .rowsE RS v us (xs.set a (elimTo i n last (xs.getD i []) f (xs.getD a [])))] H' → W.bin .add x53 (.int .i64 1) H' fun v55 H => J2 (v55, ()) H) :
    W.loop (S := St [11]) (fun I3 s H => f122.l3 Q u (pt b 0) v (.int .i64 f) (.int .i64 last) x53 J2 I3 s.1 H) (.int .i64 (i : Nat), ()) H := by
  have hl1 := hs.1
  have hax : a < xs.length := by omega
  have hix : i < xs.length := by omega
  have hra := hs.2 _ (List.getElem_mem hax)
  have hri := hs.2 _ (List.getElem_mem hix)
  refine W.for_rule (n - i) (fun k s H => s = (.int .i64 ((i + k : Nat) : Int), ()) ∧ Ab.Loc H0 [.box b [.int .i64 (i : Nat)], .rowsE RS v us (xs.set a (elimTo i (i + k) last (xs.getD i []) f (xs.getD a [])))] H) ⟨rfl, ?_⟩ ?_
  · rw [Nat.add_zero, elimTo_start, rowD hax, List.set_getElem_self]
    exact h
  rintro k s H J3 hk ⟨rfl, h⟩ hJ3
  have hal : a < (xs.set a (elimTo i (i + k) last (xs.getD i []) f (xs.getD a []))).length := by rw [List.length_set]; exact hax
  have hil : i < (xs.set a (elimTo i (i + k) last (xs.getD i []) f (xs.getD a []))).length := by rw [List.length_set]; exact hix
  have hya : (xs.set a (elimTo i (i + k) last (xs.getD i []) f (xs.getD a [])))[a] = elimTo i (i + k) last (xs.getD i []) f (xs.getD a []) := by simp
  have hyi : (xs.set a (elimTo i (i + k) last (xs.getD i []) f (xs.getD a [])))[i] = xs[i] := by rw [List.getElem_set_ne (by omega)]
  have hel : (elimTo i (i + k) last (xs.getD i []) f (xs.getD a [])).length = n := by rw [elimTo_len, rowD hax, hra]
  have hw := h.rowE rfl (j := 1) rfl hu hal
  rw [hya] at hw
  refine Wl.lenH hw (Wi.lssC (fun hlt => Wi.tru ?_) fun hge => Wi.fls ?_)
  · have hkn : k < n - i := by omega
    have hkl : i + k < (elimTo i (i + k) last (xs.getD i []) f (xs.getD a [])).length := by omega
    have hka : i + k < (xs.getD a []).length := by rw [rowD hax]; omega
    have b1 := hB2 (i + k) (by omega) (by omega)
    have b2 := hB i (by omega) (by omega)
    have b3 := hB (i + k) (by omega) (by omega)
    have e1 : (elimTo i (i + k) last (xs.getD i []) f (xs.getD a []))[i + k] = mAt xs a (i + k) := by
      rw [elimTo_at hka (Nat.le_refl _)]
      simp only [mAt]
      rw [atD hka]
    have m1 := mulA b1 b2
    have m2 := mulA hf b3
    refine Wl.atIntH hw hkl fun _ => Wl.get h rfl (Wl.atRowE rfl h hil fun w2 _ hw2 => ?_)
    rw [hyi] at hw2
    have hii : i < xs[i].length := by omega
    have hik : i + k < xs[i].length := by omega
    have e2 : xs[i][i] = mAt xs i i := (mAt_at hix hii).symm
    have e3 : xs[i][i + k] = mAt xs i (i + k) := (mAt_at hix hik).symm
    refine Wl.get h rfl (Wl.atIntH hw2 hii fun _ => Wi.mul (by rw [e1, e2]; exact i64A m1 (by decide)) (Wl.get h rfl (Wl.atRowE rfl h hil fun w3 _ hw3 => ?_)))
    rw [hyi] at hw3
    refine Wl.atIntH hw3 hik fun _ => ?_
    rw [e1, e2, e3]
    refine Wi.mul (i64A m2 (by decide)) (Wi.sub (i64A (subA m1 m2) (by decide)) (Wi.quo hl (tdiv_i64 (subA m1 m2) (by decide)) ?_))
    refine Wl.rowSetE h (j := 1) rfl hu hal (by rw [hya]; exact hkl) (tdiv_i64 (subA m1 m2) (by decide)) fun H h => Wi.add (by unfold I64; omega) (hJ3 _ _ hkn ⟨rfl, ?_⟩)
    have es := elimTo_step (last := last) (p := xs.getD i []) (f := f) hka (Nat.le_add_right i k)
    have e4 : (xs.getD a [])[i + k] = mAt xs a (i + k) := by simp only [mAt]; rw [atD hka]
    rw [e4] at es
    have h2 : Ab.Loc H0 [.box b [.int .i64 (i : Nat)], .rowsE RS v us ((xs.set a (elimTo i (i + k) last (xs.getD i []) f (xs.getD a []))).set a ((xs.set a (elimTo i (i + k) last (xs.getD i []) f (xs.getD a [])))[a].set (i + k) ((mAt xs a (i + k) * mAt xs i i - f * mAt xs i (i + k)).tdiv last)))] H := h
    rw [hya, List.set_set, es] at h2
    exact h2
  · have : k = n - i := by omega
    subst this
    rw [show i + (n - i) = n by omega] at h
    exact hJ _ h

/-- All rows' elimination, and the step's end. -/
theorem det_j1 {H0 H : Heap} {Q : Post} {b : Nat} {v : Value} {us : List Value} {xs : List (List Int)} {n i : Nat} {last turn D : Int} {J : St [4, 5, 16] → Heap → Prop} (h : Ab.Loc H0 [.box b [.int .i64 (i : Nat)], .rowsE RS v us xs] H) (hs : Sq n xs) (hn : n ≤ 5) (hi : i < n) (hul : us.length = n)
    (bi : BInv n 200 D i last turn (mSub i xs)) (hp : mAt xs i i ≠ 0)
    (hJ : ∀ H', Ab.Loc H0 [.rowsE RS v us (elimRows i (n - (i + 1)) n last xs)] H' → J (.int .i64 (mAt xs i i), .int .i64 turn, .int .i64 ((i + 1 : Nat) : Int), ()) H') :
    f122.j1 Q (pt b 0) v (.int .i64 last) (.int .i64 (i : Nat)) J (.int .i64 turn) H := by
  have hl1 := hs.1
  have hix : i < xs.length := by omega
  unfold f122.j1
  refine Wl.get h rfl (Wi.add (by unfold I64; omega) (Wl.subE (l := i + 1) h (by omega) (by omega) fun w hw => Wi.lenSub hw ?_))
  rw [hl1] at hw
  have hbnd : i + 1 < n → ∀ r c, i ≤ r → r < n → i ≤ c → c < n → (mAt xs r c).natAbs ≤ 1600000000 := fun hin r c h1 h2 h3 h4 => by
    have := bi.abs (r := r - i) (c := c - i) (by omega) (by omega)
    have e : mSub i xs (r - i) (c - i) = mAt xs r c := by simp only [mSub]; rw [show i + (r - i) = r by omega, show i + (c - i) = c by omega]
    rw [e] at this
    exact Nat.le_trans this (pow200' (by omega))
  refine W.for_rule (n - (i + 1)) (fun x s H => s = (.int .i64 (x : Nat), ()) ∧ Ab.Loc H0 [.box b [.int .i64 (i : Nat)], .rowsE RS v us (elimRows i x n last xs)] H) ⟨rfl, by rw [elimRows_start]; exact h⟩ ?_
  rintro x s H J2 hx ⟨rfl, h⟩ hJ2
  have hrl := elimRows_len i x n last xs
  have hsq := elimRows_sq (i := i) (x := x) (m := n) (last := last) hs
  refine Wi.lssC (fun hlt => Wi.tru ?_) fun hge => Wi.fls ?_
  · have hxn : x < n - (i + 1) := by omega
    have hin : i + 1 < n := by omega
    have hax : i + 1 + x < xs.length := by omega
    have hra := hs.2 _ (List.getElem_mem hax)
    have ea := elimRows_at (i := i) (x := x) (n := n) (last := last) hax (.inr (by omega))
    refine Wl.atSubE rfl h (l := i + 1) (by rw [hrl, hl1]; exact hw) (by omega) fun u hu hu2 => ?_
    rw [ea] at hu2
    have hii : i < xs[i + 1 + x].length := by omega
    have e2 : xs[i + 1 + x][i] = mAt xs (i + 1 + x) i := (mAt_at hax hii).symm
    refine Wl.get h rfl (Wl.atIntH hu2 hii fun _ => Wl.get h rfl ?_)
    rw [e2]
    have er : ∀ r c, i ≤ r → r < n → i ≤ c → c < n → mAt (elimRows i x n last xs) r c = if r ≤ i ∨ i + x < r then mAt xs r c else mAt (elimRows i x n last xs) r c := fun r c h1 h2 h3 h4 => by
      split
      · rename_i g
        simp only [mAt]
        rw [rowD (show r < (elimRows i x n last xs).length by omega), rowD (show r < xs.length by omega), elimRows_at (by omega) g]
      · rfl
    refine det_l3' h hsq hn (show i < i + 1 + x by omega) (by omega) hu bi.hl (hbnd hin _ _ (by omega) (by omega) (by omega) (by omega)) (fun c h1 h2 => ?_) (fun c h1 h2 => ?_) fun H h => Wi.add (by unfold I64; omega) (hJ2 _ _ hxn ⟨rfl, ?_⟩)
    · rw [er i c (by omega) hi h1 h2, if_pos (.inl (Nat.le_refl _))]
      exact hbnd hin i c (by omega) hi h1 h2
    · rw [er _ c (by omega) (by omega) h1 h2, if_pos (.inr (by omega))]
      exact hbnd hin _ c (by omega) (by omega) h1 h2
    · have es := elimRows_step (n := n) (last := last) hax
      have e4 : (elimRows i x n last xs).getD i [] = xs.getD i [] := by
        rw [rowD (by omega), rowD hix, elimRows_at hix (.inl (Nat.le_refl _))]
      have e5 : (elimRows i x n last xs).getD (i + 1 + x) [] = xs[i + 1 + x] := by rw [rowD (by omega), ea]
      rw [e4, e5] at h
      have e6 : xs[i + 1 + x].getD i 0 = mAt xs (i + 1 + x) i := by rw [atD hii, e2]
      rw [e6] at es
      rw [es] at h
      exact h
  · have : x = n - (i + 1) := by omega
    subst this
    have hii : i < xs[i].length := by rw [hs.2 _ (List.getElem_mem hix)]; omega
    refine Wl.get h rfl (Wl.atRowE rfl h (by omega) fun u hu hu2 => ?_)
    rw [elimRows_at hix (.inl (Nat.le_refl _))] at hu2
    refine Wl.get h rfl (Wl.atIntH hu2 hii fun _ => Wi.add (by unfold I64; omega) ?_)
    rw [show xs[i][i] = mAt xs i i from (mAt_at hix hii).symm]
    exact hJ _ h.tl

/-- The search for a row to step with. -/
theorem det_find {H0 H : Heap} {Q : Post} {b : Nat} {v w : Value} {us : List Value} {xs : List (List Int)} {n i : Nat} (h : Ab.Loc H0 [.box b [.int .i64 (i : Nat)], .rowsE RS v us xs] H) (hs : Sq n xs) (hi : i < n) (hn : n ≤ 5) (hw : SubOf v w i n)
    (h1 : (∀ r, r < n - i → mSub i xs r 0 = 0) → Q (.int .i64 (-1)) H) (h2 : ∀ k : Nat, i + k < n → mAt xs (i + k) i ≠ 0 → Q (.int .i64 (k : Nat)) H) :
    Runs Tryz.prog 111 #[w, .func (.func 146) #[] #[pt b 0]] H Q := by
  have hl1 := hs.1
  refine f111.enter (Wi.lenSub hw ?_)
  refine W.for_rule (n - i) (fun x s H' => H' = H ∧ s = (.int .i64 (x : Nat), ()) ∧ ∀ r, r < x → mSub i xs r 0 = 0) ⟨rfl, rfl, fun r hr => by omega⟩ ?_
  rintro x s H' J hx ⟨rfl, rfl, hz⟩ hJ
  refine Wi.lssC (fun hlt => Wi.tru ?_) fun hge => Wi.fls ?_
  · have hax : i + x < xs.length := by omega
    have hra := hs.2 _ (List.getElem_mem hax)
    have hii : i < xs[i + x].length := by omega
    have e2 : xs[i + x][i] = mAt xs (i + x) i := (mAt_at hax hii).symm
    refine Wl.atSubE rfl h (l := i) (by rw [hl1]; exact hw) (by omega) fun u hu hu2 => Wi.callV (f146.enter (Wl.get h rfl (Wl.atIntH hu2 hii fun _ => ?_)))
    rw [e2]
    refine Wi.neqC (fun hne => Wi.tru (h2 x (by omega) hne)) fun he => Wi.fls (Wi.add (by unfold I64; omega) (hJ _ _ (by omega) ⟨rfl, rfl, fun r hr => ?_⟩))
    by_cases e : r = x
    · subst e; exact he
    · exact hz r (by omega)
  · have : x = n - i := by omega
    subst this
    exact h1 hz

theorem fn122 {H0 : Heap} {Q : Post} {v0 : Value} {rows : List (List Int)} {n : Nat} (hr : Has RSS H0 [v0] rows) (hs : Sq n rows) (hn : n ≤ 5) (hR : ∀ i, i < n → nsum n (fun j => (mAt rows i j).natAbs) ≤ 200)
    (hQ : ∀ H', H0.Le H' → Q (.int .i64 (det n (mAt rows))) H') : Runs Tryz.prog 122 #[v0] H0 Q := by
  have hl1 := hs.1
  refine f122.enter (Wi.call (fn129 hr ⟨by omega, fun r hr => by rw [hs.2 r hr]; omega⟩ fun H v g => ?_))
  have h := (Loc.start H0).addG g
  obtain ⟨us, hus, h⟩ := h.headsE (i := 0) rfl rfl
  refine Wl.len h ?_
  refine W.for_rule n (fun i s H => ∃ last turn us xs, s = (.int .i64 last, .int .i64 turn, .int .i64 (i : Nat), ()) ∧ Ab.Loc H0 [.rowsE RS v us xs] H ∧ Sq n xs ∧ us.length = n ∧ BInv n 200 (det n (mAt rows)) i last turn (mSub i xs) ∧ last.natAbs ≤ 200 ^ i)
    ⟨1, 1, us, rows, rfl, h, hs, by omega, (BInv.start hR).congr fun r c _ _ => by simp only [mSub, Nat.zero_add], by decide⟩ ?_
  rintro i s H J hi ⟨last, turn, us, xs, rfl, h, hs, hul, bi, hla⟩ hJ
  have hl2 := hs.1
  have htu := bi.ht
  refine Wi.lssC (fun hlt => Wi.tru ?_) fun hge => Wi.fls ?_
  · have hin : i < n := by omega
    have next : ∀ (H : Heap) (b : Nat) (us : List Value) (xs : List (List Int)) (turn : Int), Ab.Loc H0 [.box b [.int .i64 (i : Nat)], .rowsE RS v us xs] H → Sq n xs → us.length = n → BInv n 200 (det n (mAt rows)) i last turn (mSub i xs) → mAt xs i i ≠ 0 →
        f122.j1 Q (pt b 0) v (.int .i64 last) (.int .i64 (i : Nat)) J (.int .i64 turn) H := fun H b us xs turn h hs hul bi hp => by
      refine det_j1 h hs hn hin hul bi hp fun H' h' => hJ _ _ hin ⟨_, _, us, _, rfl, h', elimRows_sq hs, hul, bi.elim hs hin hp, ?_⟩
      have := bi.abs (r := 0) (c := 0) (by omega) (by omega)
      simpa [mSub] using this
    refine Wl.new h fun H b h => Wl.put h rfl (by simp) fun H h => Wl.get h rfl (Wl.subE (l := i) h (by omega) (by omega) fun w hw => Wi.call (det_find h hs hin hn (by rw [← hl2]; exact hw) (fun hz => ?_) fun k hk hne => ?_))
    · refine Wi.lssC (fun _ => Wi.tru ?_) fun h => by omega
      have := hQ H h.le
      rw [bi.none hin hz] at this
      exact this
    · refine Wi.lssC (fun h => by omega) fun _ => Wi.fls (Wi.gtrC (fun hgt => Wi.tru ?_) fun hle => Wi.fls ?_)
      · have hkx : i + k < xs.length := by omega
        have hix : i < xs.length := by omega
        refine Wl.get h rfl (Wl.get h rfl (Wi.add (by unfold I64; omega) (Wl.get h rfl (Wi.add (by unfold I64; omega) ?_))))
        refine Wl.atRowE (a := i + k) rfl h hkx fun u2 hu2 hr2 => Wl.get h rfl (Wl.atRowE rfl h hix fun u1 hu1 hr1 => ?_)
        have hc1 := hr1.cell1
        have hc2 := hr2.cell1
        have h := h.loose rfl (j := 1) rfl (by omega)
        refine Wl.putX h (j := 1) rfl hix hc2 fun H h => Wi.chk (Wl.get h rfl ⟨rfl, rfl⟩) (Wl.putX (a := i + k) h (j := 1) rfl hkx hc1 fun H h => Wi.neg (by rcases htu with e | e <;> rw [e] <;> unfold I64 <;> omega) ?_)
        have h := h.tight rfl (j := 1) rfl hix hkx (by omega) hu1 hu2 (by omega)
        have e1 : xs[i + k] = xs.getD (i + k) [] := (rowD hkx).symm
        have e2 : xs[i] = xs.getD i [] := (rowD hix).symm
        rw [e1, e2] at h
        have hl3 : (xs.getD (i + k) []).length = n := by rw [← e1]; exact hs.2 _ (List.getElem_mem hkx)
        have hl4 : (xs.getD i []).length = n := by rw [← e2]; exact hs.2 _ (List.getElem_mem hix)
        refine next _ _ _ _ _ h ((hs.set hl3).set hl4) (by simp; omega) (bi.swapped hs hk (by omega)) ?_
        rw [mAt_set (by rw [List.length_set]; omega), if_neg (by omega), mAt_set hix, if_pos rfl]
        exact hne
      · have : k = 0 := by omega
        subst this
        exact next _ _ _ _ _ h hs hul bi hne
  · have : i = n := by omega
    subst this
    have e := bi.done (Nat.le_refl _)
    have hla5 := Nat.le_trans hla (pow200 hn)
    refine Wi.mul ?_ ?_
    · rcases htu with e | e <;> rw [e] <;> unfold I64 <;> omega
    · rw [← e]
      exact hQ _ h.le

end Go.Proofs.YtdmgomeogedjgaaGreat
