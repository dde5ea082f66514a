/- The contract of the program's determinant: Bareiss' steps, rows exchanged where needed. No condition. -/
import Derived.Test.YtbcfknboheghkaaGreatGNN
import Derived.Test.YtbcfknboheghkaaGreatGAA
import Derived.Test.YtbcfknboheghkaaGreatZabG7
import Derived.Test.YtbcfknboheghkaaGreatZabG8
import Derived.Test.YtbcfknboheghkaaGreatZabG9
import Derived.Test.YtbcfknboheghkaaGreatZabG4
import Derived.Test.YtbcfknboheghkaaGreatGQQ
import Derived.Test.YtbcfknboheghkaaGreatGGM
namespace Go.Proofs.YtbcfknboheghkaaGreat
open Go.Ab

/- loop.example/g01343/impl.determinant -/
def f149.l3 (Q : Post) (v29 : Value) (v4 : Value) (v1 : Value) (v32 : Value) (last_4 : Value) (x_53 : Value) (I2 : St [53] → Heap → Prop) (I3 : St [11] → Heap → Prop) (c_11 : Value) (H : Heap) : Prop :=
  W.len v29 H fun v34 H =>
  W.bin .lss c_11 v34 H fun v35 H =>
  W.cond v35 H
  (fun H => W.indexAddr 1 v29 c_11 H fun v36 H =>
   W.get v36 H fun v37 H =>
   W.get v4 H fun v38 H =>
   W.indexAddr 1 v1 v38 H fun v39 H =>
   W.get v39 H fun v40 H =>
   W.get v4 H fun v41 H =>
   W.indexAddr 1 v40 v41 H fun v42 H =>
   W.get v42 H fun v43 H =>
   W.bin .mul v37 v43 H fun v44 H =>
   W.get v4 H fun v45 H =>
   W.indexAddr 1 v1 v45 H fun v46 H =>
   W.get v46 H fun v47 H =>
   W.indexAddr 1 v47 c_11 H fun v48 H =>
   W.get v48 H fun v49 H =>
   W.bin .mul v32 v49 H fun v50 H =>
   W.bin .sub v44 v50 H fun v51 H =>
   W.bin .quo v51 last_4 H fun v52 H =>
   W.indexAddr 1 v29 c_11 H fun v53 H =>
   W.put v53 v52 H fun _ H =>
   W.bin .add c_11 (.int .i64 1) H fun v54 H =>
   I3 (v54, ()) H)
  (fun H => W.bin .add x_53 (.int .i64 1) H fun v55 H =>
   I2 (v55, ()) H)
def f149.l2 (Q : Post) (v26 : Value) (v25 : Value) (v4 : Value) (v1 : Value) (last_4 : Value) (x_16 : Value) (turn_5' : Value) (I1 : St [4, 5, 16] → Heap → Prop) (I2 : St [53] → Heap → Prop) (x_53 : Value) (H : Heap) : Prop :=
  W.bin .lss x_53 v26 H fun v27 H =>
  W.cond v27 H
  (fun H => W.indexAddr 1 v25 x_53 H fun v28 H =>
   W.get v28 H fun v29 H =>
   W.get v4 H fun v30 H =>
   W.indexAddr 1 v29 v30 H fun v31 H =>
   W.get v31 H fun v32 H =>
   W.get v4 H fun v33 H =>
   W.loop (S := St [11]) (fun I3 s H => f149.l3 Q v29 v4 v1 v32 last_4 x_53 I2 I3 s.1 H) (v33, ()) H)
  (fun H => W.get v4 H fun v56 H =>
   W.indexAddr 1 v1 v56 H fun v57 H =>
   W.get v57 H fun v58 H =>
   W.get v4 H fun v59 H =>
   W.indexAddr 1 v58 v59 H fun v60 H =>
   W.get v60 H fun v61 H =>
   W.bin .add x_16 (.int .i64 1) H fun v62 H =>
   I1 (v61, turn_5', v62, ()) H)
def f149.j1 (Q : Post) (v4 : Value) (v1 : Value) (last_4 : Value) (x_16 : Value) (I1 : St [4, 5, 16] → Heap → Prop) (turn_5' : Value) (H : Heap) : Prop :=
  W.get v4 H fun v23 H =>
  W.bin .add v23 (.int .i64 1) H fun v24 H =>
  W.slice 1 v1 (some v24) none H fun v25 H =>
  W.len v25 H fun v26 H =>
  W.loop (S := St [53]) (fun I2 s H => f149.l2 Q v26 v25 v4 v1 last_4 x_16 turn_5' I1 I2 s.1 H) ((.int .i64 0), ()) H
def f149.l1 (Q : Post) (v2 : Value) (v1 : Value) (I1 : St [4, 5, 16] → Heap → Prop) (last_4 : Value) (turn_5 : Value) (x_16 : Value) (H : Heap) : Prop :=
  W.bin .lss x_16 v2 H fun v3 H =>
  W.cond v3 H
  (fun H => W.new [(.int .i64 0)] 3 H fun v4 H =>
   W.put v4 x_16 H fun _ H =>
   W.get v4 H fun v5 H =>
   W.slice 1 v1 (some v5) none H fun v6 H =>
   W.call Tryz.prog (.func (.func 153) #[] #[]) #[v6, (.func (.func 165) #[] #[v4])] H fun v7 H =>
   W.bin .lss v7 (.int .i64 0) H fun v8 H =>
   W.cond v8 H
   (fun H => Q (.int .i64 0) H)
   (fun H => W.bin .gtr v7 (.int .i64 0) H fun v9 H =>
    W.cond v9 H
    (fun H => W.get v4 H fun v10 H =>
     W.get v4 H fun v11 H =>
     W.bin .add v11 v7 H fun v12 H =>
     W.get v4 H fun v13 H =>
     W.bin .add v13 v7 H fun v14 H =>
     W.indexAddr 1 v1 v14 H fun v15 H =>
     W.get v15 H fun v16 H =>
     W.get v4 H fun v17 H =>
     W.indexAddr 1 v1 v17 H fun v18 H =>
     W.get v18 H fun v19 H =>
     W.indexAddr 1 v1 v10 H fun v20 H =>
     W.put v20 v16 H fun _ H =>
     W.chk (fun H k => W.get v4 H k) v11 H (W.indexAddr 1 v1 v12 H fun v21 H =>
     W.put v21 v19 H fun _ H =>
     W.un .neg turn_5 H fun v22 H =>
     f149.j1 Q v4 v1 last_4 x_16 I1 v22 H))
    (fun H => f149.j1 Q v4 v1 last_4 x_16 I1 turn_5 H)))
  (fun H => W.bin .mul turn_5 last_4 H fun v63 H =>
   Q v63 H)
def f149.w (Q : Post) (rows_0 : Value) (H : Heap) : Prop :=
  W.call Tryz.prog (.func (.func 150) #[] #[]) #[rows_0] H fun v1 H =>
  W.len v1 H fun v2 H =>
  W.loop (S := St [4, 5, 16]) (fun I1 s H => f149.l1 Q v2 v1 I1 s.1 s.2.1 s.2.2.1 H) ((.int .i64 1), (.int .i64 1), (.int .i64 0), ()) H
theorem f149.enter {Q : Post} {rows_0 : Value} {H : Heap} (h : f149.w Q rows_0 H) : Runs Tryz.prog 149 #[rows_0] H Q :=
  fn_enter (ann := [(4, [4, 5, 16]), (13, [53]), (17, [11])]) (by kernel_rfl) Tryz.func149 rfl (by kernel_rfl) h (by kernel_rfl)

/- loop.example/g01343/impl.determinant$1 -/
def f165.w (Q : Post) (row_0 : Value) (x_1 : Value) (H : Heap) : Prop :=
  W.get x_1 H fun v1 H =>
  W.indexAddr 1 row_0 v1 H fun v2 H =>
  W.get v2 H fun v3 H =>
  W.bin .neq v3 (.int .i64 0) H fun v4 H =>
  Q v4 H
theorem f165.enter {Q : Post} {row_0 : Value} {x_1 : Value} {H : Heap} (h : f165.w Q row_0 x_1 H) : Runs Tryz.prog 165 #[row_0, x_1] H Q :=
  fn_enter (ann := []) (by kernel_rfl) Tryz.func165 rfl (by kernel_rfl) h (by kernel_rfl)


theorem tdiv_i64 {x y : Int} {A : Nat} (h : x.natAbs ≤ A) (hA : A < 9223372036854775808) : I64 (x.tdiv y) := i64A (quoA h) hA

/-- One row's elimination. -/
theorem det_l3' {H0 H : Heap} {Q : Post} {b : Nat} {v u x53 : Value} {us : List Value} {xs : List (List Int)} {n i a : Nat} {last f : Int} {J2 : St [53] → Heap → Prop} (h : Ab.Loc H0 [.box b [.int .i64 (i : Nat)], .rowsE RS v us xs] H) (hs : Sq n xs) (hn : n ≤ 5) (hia : i < a) (han : a < n) (hu : us[a]? = some u) (hl : last ≠ 0)
    (hf : f.natAbs ≤ 1600000000) (hB : ∀ c, i ≤ c → c < n → (mAt xs i c).natAbs ≤ 1600000000) (hB2 : ∀ c, i ≤ c → c < n → (mAt xs a c).natAbs ≤ 1600000000)
    (hJ : ∀ H', Ab.Loc H0 [.box b [.int .i64 (i : Nat)], .rowsE RS v us (xs.set a (elimTo i n last (xs.getD i []) f (xs.getD a [])))] H' → W.bin .add x53 (.int .i64 1) H' fun v55 H => J2 (v55, ()) H) :
    W.loop (S := St [11]) (fun I3 s H => f149.l3 Q u (pt b 0) v (.int .i64 f) (.int .i64 last) x53 J2 I3 s.1 H) (.int .i64 (i : Nat), ()) H := by
  have hl1 := hs.1
  have hax : a < xs.length := by omega
  have hix : i < xs.length := by omega
  have hra := hs.2 _ (List.getElem_mem hax)
  have hri := hs.2 _ (List.getElem_mem hix)
  refine W.for_rule (n - i) (fun k s H => s = (.int .i64 ((i + k : Nat) : Int), ()) ∧ Ab.Loc H0 [.box b [.int .i64 (i : Nat)], .rowsE RS v us (xs.set a (elimTo i (i + k) last (xs.getD i []) f (xs.getD a [])))] H) ⟨rfl, ?_⟩ ?_
  · rw [Nat.add_zero, elimTo_start, rowD hax, List.set_getElem_self]
    exact h
  rintro k s H J3 hk ⟨rfl, h⟩ hJ3
  have hal : a < (xs.set a (elimTo i (i + k) last (xs.getD i []) f (xs.getD a []))).length := by rw [List.length_set]; exact hax
  have hil : i < (xs.set a (elimTo i (i + k) last (xs.getD i []) f (xs.getD a []))).length := by rw [List.length_set]; exact hix
  have hya : (xs.set a (elimTo i (i + k) last (xs.getD i []) f (xs.getD a [])))[a] = elimTo i (i + k) last (xs.getD i []) f (xs.getD a []) := by simp
  have hyi : (xs.set a (elimTo i (i + k) last (xs.getD i []) f (xs.getD a [])))[i] = xs[i] := by rw [List.getElem_set_ne (by omega)]
  have hel : (elimTo i (i + k) last (xs.getD i []) f (xs.getD a [])).length = n := by rw [elimTo_len, rowD hax, hra]
  have hw := h.rowE rfl (j := 1) rfl hu hal
  rw [hya] at hw
  refine Wl.lenH hw (Wi.lssC (fun hlt => Wi.tru ?_) fun hge => Wi.fls ?_)
  · have hkn : k < n - i := by omega
    have hkl : i + k < (elimTo i (i + k) last (xs.getD i []) f (xs.getD a [])).length := by omega
    have hka : i + k < (xs.getD a []).length := by rw [rowD hax]; omega
    have b1 := hB2 (i + k) (by omega) (by omega)
    have b2 := hB i (by omega) (by omega)
    have b3 := hB (i + k) (by omega) (by omega)
    have e1 : (elimTo i (i + k) last (xs.getD i []) f (xs.getD a []))[i + k] = mAt xs a (i + k) := by
      rw [elimTo_at hka (Nat.le_refl _)]
      simp only [mAt]
      rw [atD hka]
    have m1 := mulA b1 b2
    have m2 := mulA hf b3
    refine Wl.atIntH hw hkl fun _ => Wl.get h rfl (Wl.atRowE rfl h hil fun w2 _ hw2 => ?_)
    rw [hyi] at hw2
    have hii : i < xs[i].length := by omega
    have hik : i + k < xs[i].length := by omega
    have e2 : xs[i][i] = mAt xs i i := (mAt_at hix hii).symm
    have e3 : xs[i][i + k] = mAt xs i (i + k) := (mAt_at hix hik).symm
    refine Wl.get h rfl (Wl.atIntH hw2 hii fun _ => Wi.mul (by rw [e1, e2]; exact i64A m1 (by decide)) (Wl.get h rfl (Wl.atRowE rfl h hil fun w3 _ hw3 => ?_)))
    rw [hyi] at hw3
    refine Wl.atIntH hw3 hik fun _ => ?_
    rw [e1, e2, e3]
    refine Wi.mul (i64A m2 (by decide)) (Wi.sub (i64A (subA m1 m2) (by decide)) (Wi.quo hl (tdiv_i64 (subA m1 m2) (by decide)) ?_))
    refine Wl.rowSetE h (j := 1) rfl hu hal (by rw [hya]; exact hkl) (tdiv_i64 (subA m1 m2) (by decide)) fun H h => Wi.add (by unfold I64; omega) (hJ3 _ _ hkn ⟨rfl, ?_⟩)
    have es := elimTo_step (last := last) (p := xs.getD i []) (f := f) hka (Nat.le_add_right i k)
    have e4 : (xs.getD a [])[i + k] = mAt xs a (i + k) := by simp only [mAt]; rw [atD hka]
    rw [e4] at es
    have h2 : Ab.Loc H0 [.box b [.int .i64 (i : Nat)], .rowsE RS v us ((xs.set a (elimTo i (i + k) last (xs.getD i []) f (xs.getD a []))).set a ((xs.set a (elimTo i (i + k) last (xs.getD i []) f (xs.getD a [])))[a].set (i + k) ((mAt xs a (i + k) * mAt xs i i - f * mAt xs i (i + k)).tdiv last)))] H := h
    rw [hya, List.set_set, es] at h2
    exact h2
  · have : k = n - i := by omega
    subst this
    rw [show i + (n - i) = n by omega] at h
    exact hJ _ h

/-- All rows' elimination, and the step's end. -/
theorem det_j1 {H0 H : Heap} {Q : Post} {b : Nat} {v : Value} {us : List Value} {xs : List (List Int)} {n i : Nat} {last turn D : Int} {J : St [4, 5, 16] → Heap → Prop} (h : Ab.Loc H0 [.box b [.int .i64 (i : Nat)], .rowsE RS v us xs] H) (hs : Sq n xs) (hn : n ≤ 5) (hi : i < n) (hul : us.length = n)
    (bi : BInv n 200 D i last turn (mSub i xs)) (hp : mAt xs i i ≠ 0)
    (hJ : ∀ H', Ab.Loc H0 [.rowsE RS v us (elimRows i (n - (i + 1)) n last xs)] H' → J (.int .i64 (mAt xs i i), .int .i64 turn, .int .i64 ((i + 1 : Nat) : Int), ()) H') :
    f149.j1 Q (pt b 0) v (.int .i64 last) (.int .i64 (i : Nat)) J (.int .i64 turn) H := by
  have hl1 := hs.1
  have hix : i < xs.length := by omega
  unfold f149.j1
  refine Wl.get h rfl (Wi.add (by unfold I64; omega) (Wl.subE (l := i + 1) h (by omega) (by omega) fun w hw => Wi.lenSub hw ?_))
  rw [hl1] at hw
  have hbnd : i + 1 < n → ∀ r c, i ≤ r → r < n → i ≤ c → c < n → (mAt xs r c).natAbs ≤ 1600000000 := fun hin r c h1 h2 h3 h4 => by
    have := bi.abs (r := r - i) (c := c - i) (by omega) (by omega)
    have e : mSub i xs (r - i) (c - i) = mAt xs r c := by simp only [mSub]; rw [show i + (r - i) = r by omega, show i + (c - i) = c by omega]
    rw [e] at this
    exact Nat.le_trans this (pow200' (by omega))
  refine W.for_rule (n - (i + 1)) (fun x s H => s = (.int .i64 (x : Nat), ()) ∧ Ab.Loc H0 [.box b [.int .i64 (i : Nat)], .rowsE RS v us (elimRows i x n last xs)] H) ⟨rfl, by rw [elimRows_start]; exact h⟩ ?_
  rintro x s H J2 hx ⟨rfl, h⟩ hJ2
  have hrl := elimRows_len i x n last xs
  have hsq := elimRows_sq (i := i) (x := x) (m := n) (last := last) hs
  refine Wi.lssC (fun hlt => Wi.tru ?_) fun hge => Wi.fls ?_
  · have hxn : x < n - (i + 1) := by omega
    have hin : i + 1 < n := by omega
    have hax : i + 1 + x < xs.length := by omega
    have hra := hs.2 _ (List.getElem_mem hax)
    have ea := elimRows_at (i := i) (x := x) (n := n) (last := last) hax (.inr (by omega))
    refine Wl.atSubE rfl h (l := i + 1) (by rw [hrl, hl1]; exact hw) (by omega) fun u hu hu2 => ?_
    rw [ea] at hu2
    have hii : i < xs[i + 1 + x].length := by omega
    have e2 : xs[i + 1 + x][i] = mAt xs (i + 1 + x) i := (mAt_at hax hii).symm
    refine Wl.get h rfl (Wl.atIntH hu2 hii fun _ => Wl.get h rfl ?_)
    rw [e2]
    have er : ∀ r c, i ≤ r → r < n → i ≤ c → c < n → mAt (elimRows i x n last xs) r c = if r ≤ i ∨ i + x < r then mAt xs r c else mAt (elimRows i x n last xs) r c := fun r c h1 h2 h3 h4 => by
      split
      · rename_i g
        simp only [mAt]
        rw [rowD (show r < (elimRows i x n last xs).length by omega), rowD (show r < xs.length by omega), elimRows_at (by omega) g]
      · rfl
    refine det_l3' h hsq hn (show i < i + 1 + x by omega) (by omega) hu bi.hl (hbnd hin _ _ (by omega) (by omega) (by omega) (by omega)) (fun c h1 h2 => ?_) (fun c h1 h2 => ?_) fun H h => Wi.add (by unfold I64; omega) (hJ2 _ _ hxn ⟨rfl, ?_⟩)
    · rw [er i c (by omega) hi h1 h2, if_pos (.inl (Nat.le_refl _))]
      exact hbnd hin i c (by omega) hi h1 h2
    · rw [er _ c (by omega) (by omega) h1 h2, if_pos (.inr (by omega))]
      exact hbnd hin _ c (by omega) (by omega) h1 h2
    · have es := elimRows_step (n := n) (last := last) hax
      have e4 : (elimRows i x n last xs).getD i [] = xs.getD i [] := by
        rw [rowD (by omega), rowD hix, elimRows_at hix (.inl (Nat.le_refl _))]
      have e5 : (elimRows i x n last xs).getD (i + 1 + x) [] = xs[i + 1 + x] := by rw [rowD (by omega), ea]
      rw [e4, e5] at h
      have e6 : xs[i + 1 + x].getD i 0 = mAt xs (i + 1 + x) i := by rw [atD hii, e2]
      rw [e6] at es
      rw [es] at h
      exact h
  · have : x = n - (i + 1) := by omega
    subst this
    have hii : i < xs[i].length := by rw [hs.2 _ (List.getElem_mem hix)]; omega
    refine Wl.get h rfl (Wl.atRowE rfl h (by omega) fun u hu hu2 => ?_)
    rw [elimRows_at hix (.inl (Nat.le_refl _))] at hu2
    refine Wl.get h rfl (Wl.atIntH hu2 hii fun _ => Wi.add (by unfold I64; omega) ?_)
    rw [show xs[i][i] = mAt xs i i from (mAt_at hix hii).symm]
    exact hJ _ h.tl

/-- The search for a row to step with. -/
theorem det_find {H0 H : Heap} {Q : Post} {b : Nat} {v w : Value} {us : List Value} {xs : List (List Int)} {n i : Nat} (h : Ab.Loc H0 [.box b [.int .i64 (i : Nat)], .rowsE RS v us xs] H) (hs : Sq n xs) (hi : i < n) (hn : n ≤ 5) (hw : SubOf v w i n)
    (h1 : (∀ r, r < n - i → mSub i xs r 0 = 0) → Q (.int .i64 (-1)) H) (h2 : ∀ k : Nat, i + k < n → mAt xs (i + k) i ≠ 0 → Q (.int .i64 (k : Nat)) H) :
    Runs Tryz.prog 153 #[w, .func (.func 165) #[] #[pt b 0]] H Q := by
  have hl1 := hs.1
  refine f153.enter (Wi.lenSub hw ?_)
  refine W.for_rule (n - i) (fun x s H' => H' = H ∧ s = (.int .i64 (x : Nat), ()) ∧ ∀ r, r < x → mSub i xs r 0 = 0) ⟨rfl, rfl, fun r hr => by omega⟩ ?_
  rintro x s H' J hx ⟨rfl, rfl, hz⟩ hJ
  refine Wi.lssC (fun hlt => Wi.tru ?_) fun hge => Wi.fls ?_
  · have hax : i + x < xs.length := by omega
    have hra := hs.2 _ (List.getElem_mem hax)
    have hii : i < xs[i + x].length := by omega
    have e2 : xs[i + x][i] = mAt xs (i + x) i := (mAt_at hax hii).symm
    refine Wl.atSubE rfl h (l := i) (by rw [hl1]; exact hw) (by omega) fun u hu hu2 => Wi.callV (f165.enter (Wl.get h rfl (Wl.atIntH hu2 hii fun _ => ?_)))
    rw [e2]
    refine Wi.neqC (fun hne => Wi.tru (h2 x (by omega) hne)) fun he => Wi.fls (Wi.add (by unfold I64; omega) (hJ _ _ (by omega) ⟨rfl, rfl, fun r hr => ?_⟩))
    by_cases e : r = x
    · subst e; exact he
    · exact hz r (by omega)
  · have : x = n - i := by omega
    subst this
    exact h1 hz

theorem fn149 {H0 : Heap} {Q : Post} {v0 : Value} {rows : List (List Int)} {n : Nat} (hr : Has RSS H0 [v0] rows) (hs : Sq n rows) (hn : n ≤ 5) (hR : ∀ i, i < n → nsum n (fun j => (mAt rows i j).natAbs) ≤ 200)
    (hQ : ∀ H', H0.Le H' → Q (.int .i64 (det n (mAt rows))) H') : Runs Tryz.prog 149 #[v0] H0 Q := by
  have hl1 := hs.1
  refine f149.enter (Wi.call (fn150 hr ⟨by omega, fun r hr => by rw [hs.2 r hr]; omega⟩ fun H v g => ?_))
  have h := (Loc.start H0).addG g
  obtain ⟨us, hus, h⟩ := h.headsE (i := 0) rfl rfl
  refine Wl.len h ?_
  refine W.for_rule n (fun i s H => ∃ last turn us xs, s = (.int .i64 last, .int .i64 turn, .int .i64 (i : Nat), ()) ∧ Ab.Loc H0 [.rowsE RS v us xs] H ∧ Sq n xs ∧ us.length = n ∧ BInv n 200 (det n (mAt rows)) i last turn (mSub i xs) ∧ last.natAbs ≤ 200 ^ i)
    ⟨1, 1, us, rows, rfl, h, hs, by omega, (BInv.start hR).congr fun r c _ _ => by simp only [mSub, Nat.zero_add], by decide⟩ ?_
  rintro i s H J hi ⟨last, turn, us, xs, rfl, h, hs, hul, bi, hla⟩ hJ
  have hl2 := hs.1
  have htu := bi.ht
  refine Wi.lssC (fun hlt => Wi.tru ?_) fun hge => Wi.fls ?_
  · have hin : i < n := by omega
    have next : ∀ (H : Heap) (b : Nat) (us : List Value) (xs : List (List Int)) (turn : Int), Ab.Loc H0 [.box b [.int .i64 (i : Nat)], .rowsE RS v us xs] H → Sq n xs → us.length = n → BInv n 200 (det n (mAt rows)) i last turn (mSub i xs) → mAt xs i i ≠ 0 →
        f149.j1 Q (pt b 0) v (.int .i64 last) (.int .i64 (i : Nat)) J (.int .i64 turn) H := fun H b us xs turn h hs hul bi hp => by
      refine det_j1 h hs hn hin hul bi hp fun H' h' => hJ _ _ hin ⟨_, _, us, _, rfl, h', elimRows_sq hs, hul, bi.elim hs hin hp, ?_⟩
      have := bi.abs (r := 0) (c := 0) (by omega) (by omega)
      simpa [mSub] using this
    refine Wl.new h fun H b h => Wl.put h rfl (by simp) fun H h => Wl.get h rfl (Wl.subE (l := i) h (by omega) (by omega) fun w hw => Wi.call (det_find h hs hin hn (by rw [← hl2]; exact hw) (fun hz => ?_) fun k hk hne => ?_))
    · refine Wi.lssC (fun _ => Wi.tru ?_) fun h => by omega
      have := hQ H h.le
      rw [bi.none hin hz] at this
      exact this
    · refine Wi.lssC (fun h => by omega) fun _ => Wi.fls (Wi.gtrC (fun hgt => Wi.tru ?_) fun hle => Wi.fls ?_)
      · have hkx : i + k < xs.length := by omega
        have hix : i < xs.length := by omega
        refine Wl.get h rfl (Wl.get h rfl (Wi.add (by unfold I64; omega) (Wl.get h rfl (Wi.add (by unfold I64; omega) ?_))))
        refine Wl.atRowE (a := i + k) rfl h hkx fun u2 hu2 hr2 => Wl.get h rfl (Wl.atRowE rfl h hix fun u1 hu1 hr1 => ?_)
        have hc1 := hr1.cell1
        have hc2 := hr2.cell1
        have h := h.loose rfl (j := 1) rfl (by omega)
        refine Wl.putX h (j := 1) rfl hix hc2 fun H h => Wi.chk (Wl.get h rfl ⟨rfl, rfl⟩) (Wl.putX (a := i + k) h (j := 1) rfl hkx hc1 fun H h => Wi.neg (by rcases htu with e | e <;> rw [e] <;> unfold I64 <;> omega) ?_)
        have h := h.tight rfl (j := 1) rfl hix hkx (by omega) hu1 hu2 (by omega)
        have e1 : xs[i + k] = xs.getD (i + k) [] := (rowD hkx).symm
        have e2 : xs[i] = xs.getD i [] := (rowD hix).symm
        rw [e1, e2] at h
        have hl3 : (xs.getD (i + k) []).length = n := by rw [← e1]; exact hs.2 _ (List.getElem_mem hkx)
        have hl4 : (xs.getD i []).length = n := by rw [← e2]; exact hs.2 _ (List.getElem_mem hix)
        refine next _ _ _ _ _ h ((hs.set hl3).set hl4) (by simp; omega) (bi.swapped hs hk (by omega)) ?_
        rw [mAt_set (by rw [List.length_set]; omega), if_neg (by omega), mAt_set hix, if_pos rfl]
        exact hne
      · have : k = 0 := by omega
        subst this
        exact next _ _ _ _ _ h hs hul bi hne
  · have : i = n := by omega
    subst this
    have e := bi.done (Nat.le_refl _)
    have hla5 := Nat.le_trans hla (pow200 hn)
    refine Wi.mul ?_ ?_
    · rcases htu with e | e <;> rw [e] <;> unfold I64 <;> omega
    · rw [← e]
      exact hQ _ h.le

end Go.Proofs.YtbcfknboheghkaaGreat
/-! The contract of sign. No condition. -/
namespace Go.Proofs.YtbcfknboheghkaaGreat
open Go.Ab

/- loop.example/g01343/impl.sign -/
def f152.w (Q : Post) (n_0 : Value) (H : Heap) : Prop :=
  W.bin .lss n_0 (.int .i64 0) H fun v1 H =>
  W.cond v1 H
  (fun H => Q (.int .i64 (-1)) H)
  (fun H => W.bin .gtr n_0 (.int .i64 0) H fun v2 H =>
   W.cond v2 H
   (fun H => Q (.int .i64 1) H)
   (fun H => Q (.int .i64 0) H))
theorem f152.enter {Q : Post} {n_0 : Value} {H : Heap} (h : f152.w Q n_0 H) : Runs Tryz.prog 152 #[n_0] H Q :=
  fn_enter (ann := []) (by kernel_rfl) Tryz.func152 rfl (by kernel_rfl) h (by kernel_rfl)


theorem fn152 {H0 : Heap} {Q : Post} {x : Int} (hQ : Q (.int .i64 (sgI x)) H0) : Runs Tryz.prog 152 #[.int .i64 x] H0 Q := by
  unfold sgI at hQ
  refine f152.enter (Wi.lssC (fun h => Wi.tru ?_) fun h => Wi.fls (Wi.gtrC (fun h2 => Wi.tru ?_) fun h2 => Wi.fls ?_))
  · rw [if_pos h] at hQ; exact hQ
  · rw [if_neg h, if_pos h2] at hQ; exact hQ
  · rw [if_neg h, if_neg h2] at hQ; exact hQ

end Go.Proofs.YtbcfknboheghkaaGreat

/-! Contracts of the program's columns, solve and point. No condition. -/
namespace Go.Proofs.YtbcfknboheghkaaGreat
open Go.Ab

/- loop.example/g01343/impl.has -/
def f128.w (Q : Post) (s_0 : Value) (i_1 : Value) (H : Heap) : Prop :=
  W.bin .shr s_0 i_1 H fun v1 H =>
  W.bin .and v1 (.int .i64 1) H fun v2 H =>
  W.bin .eql v2 (.int .i64 1) H fun v3 H =>
  Q v3 H
theorem f128.enter {Q : Post} {s_0 : Value} {i_1 : Value} {H : Heap} (h : f128.w Q s_0 i_1 H) : Runs Tryz.prog 128 #[s_0, i_1] H Q :=
  fn_enter (ann := []) (by kernel_rfl) Tryz.func128 rfl (by kernel_rfl) h (by kernel_rfl)

/- loop.example/g01343/impl.put -/
def f151.l1 (Q : Post) (v1 : Value) (rows_0 : Value) (column_2 : Value) (i_1 : Value) (I1 : St [10] → Heap → Prop) (x_10 : Value) (H : Heap) : Prop :=
  W.bin .lss x_10 v1 H fun v2 H =>
  W.cond v2 H
  (fun H => W.indexAddr 1 rows_0 x_10 H fun v3 H =>
   W.get v3 H fun v4 H =>
   W.indexAddr 1 column_2 x_10 H fun v5 H =>
   W.get v5 H fun v6 H =>
   W.indexAddr 1 v4 i_1 H fun v7 H =>
   W.put v7 v6 H fun _ H =>
   W.bin .add x_10 (.int .i64 1) H fun v8 H =>
   I1 (v8, ()) H)
  (fun H => Q (.tuple #[]) H)
def f151.w (Q : Post) (rows_0 : Value) (i_1 : Value) (column_2 : Value) (H : Heap) : Prop :=
  W.len rows_0 H fun v1 H =>
  W.loop (S := St [10]) (fun I1 s H => f151.l1 Q v1 rows_0 column_2 i_1 I1 s.1 H) ((.int .i64 0), ()) H
theorem f151.enter {Q : Post} {rows_0 : Value} {i_1 : Value} {column_2 : Value} {H : Heap} (h : f151.w Q rows_0 i_1 column_2 H) : Runs Tryz.prog 151 #[rows_0, i_1, column_2] H Q :=
  fn_enter (ann := [(1, [10])]) (by kernel_rfl) Tryz.func151 rfl (by kernel_rfl) h (by kernel_rfl)

/- (loop.example/g01343/impl.Problem).column -/
def f164.j1 (Q : Post) (x_17 : Value) (I1 : St [17] → Heap → Prop) (H : Heap) : Prop :=
  W.bin .add x_17 (.int .i64 1) H fun v16 H =>
  I1 (v16, ()) H
def f164.j2 (Q : Post) (v5 : Value) (H : Heap) : Prop :=
  Q v5 H
def f164.l1 (Q : Post) (v8 : Value) (v7 : Value) (ofZ_2 : Value) (i_1 : Value) (v5 : Value) (I1 : St [17] → Heap → Prop) (x_17 : Value) (H : Heap) : Prop :=
  W.bin .lss x_17 v8 H fun v9 H =>
  W.cond v9 H
  (fun H => W.indexAddr 1 v7 x_17 H fun v10 H =>
   W.get v10 H fun v11 H =>
   W.cond ofZ_2 H
   (fun H => W.indexAddr 1 v11 i_1 H fun v12 H =>
    W.get v12 H fun v13 H =>
    W.un .neg v13 H fun v14 H =>
    W.indexAddr 1 v5 x_17 H fun v15 H =>
    W.put v15 v14 H fun _ H =>
    f164.j1 Q x_17 I1 H)
   (fun H => f164.j1 Q x_17 I1 H))
  (fun H => W.un .not ofZ_2 H fun v17 H =>
   W.cond v17 H
   (fun H => W.indexAddr 1 v5 i_1 H fun v18 H =>
    W.put v18 (.int .i64 1) H fun _ H =>
    f164.j2 Q v5 H)
   (fun H => f164.j2 Q v5 H))
def f164.w (Q : Post) (p_0 : Value) (i_1 : Value) (ofZ_2 : Value) (H : Heap) : Prop :=
  W.box p_0 43 H fun v1 H =>
  W.fieldAddr 1 v1 H fun v2 H =>
  W.get v2 H fun v3 H =>
  W.len v3 H fun v4 H =>
  W.make [(.int .i64 0)] 2 v4 v4 H fun v5 H =>
  W.fieldAddr 0 v1 H fun v6 H =>
  W.get v6 H fun v7 H =>
  W.len v7 H fun v8 H =>
  W.loop (S := St [17]) (fun I1 s H => f164.l1 Q v8 v7 ofZ_2 i_1 v5 I1 s.1 H) ((.int .i64 0), ()) H
theorem f164.enter {Q : Post} {p_0 : Value} {i_1 : Value} {ofZ_2 : Value} {H : Heap} (h : f164.w Q p_0 i_1 ofZ_2 H) : Runs Tryz.prog 164 #[p_0, i_1, ofZ_2] H Q :=
  fn_enter (ann := [(3, [17])]) (by kernel_rfl) Tryz.func164 rfl (by kernel_rfl) h (by kernel_rfl)

/- (loop.example/g01343/impl.Problem).columns -/
def f148.l2 (Q : Post) (v4 : Value) (v1 : Value) (s_1 : Value) (v5 : Value) (I2 : St [26] → Heap → Prop) (x_26 : Value) (H : Heap) : Prop :=
  W.bin .lss x_26 v4 H fun v11 H =>
  W.cond v11 H
  (fun H => W.getN 2 v1 H fun v12 H =>
   W.callQ Tryz.prog (.func (.func 128) #[] #[]) #[s_1, x_26] H fun v13 H =>
   W.callQ Tryz.prog (.func (.func 164) #[] #[]) #[v12, x_26, v13] H fun v14 H =>
   W.call Tryz.prog (.func (.func 151) #[] #[]) #[v5, x_26, v14] H fun v15 H =>
   W.bin .add x_26 (.int .i64 1) H fun v16 H =>
   I2 (v16, ()) H)
  (fun H => Q v5 H)
def f148.l1 (Q : Post) (v6 : Value) (v4 : Value) (v5 : Value) (v1 : Value) (s_1 : Value) (I1 : St [16] → Heap → Prop) (x_16 : Value) (H : Heap) : Prop :=
  W.bin .lss x_16 v6 H fun v7 H =>
  W.cond v7 H
  (fun H => W.make [(.int .i64 0)] 2 v4 v4 H fun v8 H =>
   W.indexAddr 1 v5 x_16 H fun v9 H =>
   W.put v9 v8 H fun _ H =>
   W.bin .add x_16 (.int .i64 1) H fun v10 H =>
   I1 (v10, ()) H)
  (fun H => W.loop (S := St [26]) (fun I2 s H => f148.l2 Q v4 v1 s_1 v5 I2 s.1 H) ((.int .i64 0), ()) H)
def f148.w (Q : Post) (p_0 : Value) (s_1 : Value) (H : Heap) : Prop :=
  W.box p_0 43 H fun v1 H =>
  W.fieldAddr 1 v1 H fun v2 H =>
  W.get v2 H fun v3 H =>
  W.len v3 H fun v4 H =>
  W.make [(.slice none 0 0)] 35 v4 v4 H fun v5 H =>
  W.len v5 H fun v6 H =>
  W.loop (S := St [16]) (fun I1 s H => f148.l1 Q v6 v4 v5 v1 s_1 I1 s.1 H) ((.int .i64 0), ()) H
theorem f148.enter {Q : Post} {p_0 : Value} {s_1 : Value} {H : Heap} (h : f148.w Q p_0 s_1 H) : Runs Tryz.prog 148 #[p_0, s_1] H Q :=
  fn_enter (ann := [(4, [16]), (9, [26])]) (by kernel_rfl) Tryz.func148 rfl (by kernel_rfl) h (by kernel_rfl)

/- (loop.example/g01343/impl.Problem).solve -/
def f125.l1 (Q : Post) (v8 : Value) (v3 : Value) (right_2 : Value) (v4 : Value) (v7 : Value) (I1 : St [26] → Heap → Prop) (x_26 : Value) (H : Heap) : Prop :=
  W.bin .lss x_26 v8 H fun v9 H =>
  W.cond v9 H
  (fun H => W.call Tryz.prog (.func (.func 150) #[] #[]) #[v3] H fun v10 H =>
   W.call Tryz.prog (.func (.func 151) #[] #[]) #[v10, x_26, right_2] H fun v11 H =>
   W.call Tryz.prog (.func (.func 152) #[] #[]) #[v4] H fun v12 H =>
   W.call Tryz.prog (.func (.func 149) #[] #[]) #[v10] H fun v13 H =>
   W.bin .mul v12 v13 H fun v14 H =>
   W.indexAddr 1 v7 x_26 H fun v15 H =>
   W.put v15 v14 H fun _ H =>
   W.bin .add x_26 (.int .i64 1) H fun v16 H =>
   I1 (v16, ()) H)
  (fun H => W.call Tryz.prog (.func (.func 109) #[] #[]) #[v4] H fun v17 H =>
   Q (.tuple #[v7, v17, (.bool true)]) H)
def f125.w (Q : Post) (p_0 : Value) (s_1 : Value) (right_2 : Value) (H : Heap) : Prop :=
  W.box p_0 43 H fun v1 H =>
  W.getN 2 v1 H fun v2 H =>
  W.call Tryz.prog (.func (.func 148) #[] #[]) #[v2, s_1] H fun v3 H =>
  W.call Tryz.prog (.func (.func 149) #[] #[]) #[v3] H fun v4 H =>
  W.bin .eql v4 (.int .i64 0) H fun v5 H =>
  W.cond v5 H
  (fun H => Q (.tuple #[(.slice none 0 0), (.int .i64 0), (.bool false)]) H)
  (fun H => W.len right_2 H fun v6 H =>
   W.make [(.int .i64 0)] 2 v6 v6 H fun v7 H =>
   W.len v7 H fun v8 H =>
   W.loop (S := St [26]) (fun I1 s H => f125.l1 Q v8 v3 right_2 v4 v7 I1 s.1 H) ((.int .i64 0), ()) H)
theorem f125.enter {Q : Post} {p_0 : Value} {s_1 : Value} {right_2 : Value} {H : Heap} (h : f125.w Q p_0 s_1 right_2 H) : Runs Tryz.prog 125 #[p_0, s_1, right_2] H Q :=
  fn_enter (ann := [(7, [26])]) (by kernel_rfl) Tryz.func125 rfl (by kernel_rfl) h (by kernel_rfl)

/- (loop.example/g01343/impl.Problem).point -/
def f81.w (Q : Post) (p_0 : Value) (s_1 : Value) (H : Heap) : Prop :=
  W.box p_0 43 H fun v1 H =>
  W.getN 2 v1 H fun v2 H =>
  W.fieldAddr 1 v1 H fun v3 H =>
  W.get v3 H fun v4 H =>
  W.call Tryz.prog (.func (.func 125) #[] #[]) #[v2, s_1, v4] H fun v5 H =>
  W.extract 0 v5 H fun v6 H =>
  W.extract 1 v5 H fun v7 H =>
  W.extract 2 v5 H fun v8 H =>
  Q (.tuple #[v6, v7, v8]) H
theorem f81.enter {Q : Post} {p_0 : Value} {s_1 : Value} {H : Heap} (h : f81.w Q p_0 s_1 H) : Runs Tryz.prog 81 #[p_0, s_1] H Q :=
  fn_enter (ann := []) (by kernel_rfl) Tryz.func81 rfl (by kernel_rfl) h (by kernel_rfl)


theorem range_set {n x : Nat} {f g : Nat → Int} {y : Int} (h : g x = y) (hk : ∀ k, k < n → k ≠ x → g k = f k) : ((List.range n).map f).set x y = (List.range n).map g := by
  apply List.ext_getElem
  · simp
  · intro k h1 h2
    rw [List.getElem_set]
    have hkn : k < n := by simpa using h2
    simp only [List.getElem_map, List.getElem_range]
    by_cases e : x = k
    · subst e; rw [if_pos rfl, h]
    · rw [if_neg e, hk k hkn fun g => e g.symm]

theorem fn128 {H0 : Heap} {Q : Post} {s i : Nat} (hs : s < 9223372036854775808) (hi : i ≤ 63) (hQ : Q (.bool (s.testBit i)) H0) : Runs Tryz.prog 128 #[.int .i64 (s : Nat), .int .i64 (i : Nat)] H0 Q := by
  refine f128.enter (Wi.shrN hs hi (Wi.and1 (Wi.eqlC (fun h => ?_) fun h => ?_)))
  · rw [bit_iff.1 h] at hQ; exact hQ
  · rw [show s.testBit i = false by cases hb : s.testBit i with | false => rfl | true => exact absurd (bit_iff.2 hb) h] at hQ
    exact hQ

theorem fn151 {H : Heap} {Q : Post} {bs bc : List Nat} {v vc : Value} {xs : List (List Int)} {col : List Int} {i : Nat} (h : RSS.rel H bs [v] xs) (hn : bs.Nodup) (hrw : RW H bs) (hc : RS.rel H bc [vc] col) (hap : ∀ b ∈ bc, b ∉ bs)
    (hs : ∀ r ∈ xs, i < r.length) (hcl : xs.length ≤ col.length) (hQ : ∀ H', Marked RSS H bs [v] (putCol i col xs) H' → Q (.tuple #[]) H') : Runs Tryz.prog 151 #[v, .int .i64 (i : Nat), vc] H Q := by
  have hsm := (show Has RSS H [v] xs from ⟨_, h⟩).small
  refine f151.enter (Wl.lenH (show Has RSS H [v] xs from ⟨_, h⟩) ?_)
  refine W.for_rule xs.length (fun k s H' => s = (.int .i64 (k : Nat), ()) ∧ Marked RSS H bs [v] (putTo k i col xs) H') ⟨rfl, by rw [putTo_zero]; exact Marked.refl h hrw⟩ ?_
  rintro k s H1 J hk ⟨rfl, m⟩ hJ
  refine Wi.lssC (fun hlt => Wi.tru ?_) fun hge => Wi.fls ?_
  · have hkx : k < xs.length := by omega
    obtain ⟨u, fi, g1, g2, g3, g4, g5⟩ := rows_at m.rel hn m.rw (a := k) (by rw [putTo_len]; exact hkx)
    rw [putTo_at hkx] at g2
    have hc1 : Has RS H1 [vc] col := ⟨bc, Rd.frame _ hc m.next fun b hb => m.off b (Rd.low _ hc b hb) (hap b hb)⟩
    refine g1 .i64 _ (Wl.atIntH hc1 (i := k) (by omega) fun hy => Wi.setInt g2 g3 (hs _ (List.getElem_mem hkx)) hy fun H2 m2 => Wi.add (by unfold I64; omega) (hJ _ _ hkx ⟨rfl, ?_⟩))
    have := m.trans (g5 H2 _ m2)
    have e : col[k]'(by omega) = col.getD k 0 := by rw [atD]
    rw [e, putTo_step hkx] at this
    exact this
  · have : k = xs.length := by omega
    subst this
    rw [putTo_all] at m
    exact hQ _ m

theorem fn164 {H0 : Heap} {Q : Post} {cs : List Value} {p : Prob} {n i : Nat} {ofZ : Bool} (hr : Has RProblem H0 cs p) (hp : PB n p) (hi : i < n) (hQ : ∀ H' u, Fresh RS H0 [u] (columnV n p.1 ofZ i) H' → Q u H') :
    Runs Tryz.prog 164 #[.agg cs.toArray, .int .i64 (i : Nat), .bool ofZ] H0 Q := by
  obtain ⟨u1, u2, rfl, r1, r2⟩ := hasProb hr
  have hn := hp.n5; have hql := hp.ql; have hsq := hp.sq; have hl1 := hsq.1
  refine f164.enter ?_
  unfold f164.w
  have h := ((Loc.start H0).lent r1).lent r2
  refine Wl.box h fun H b h => Wi.fieldAddr (Wl.get h rfl (Wl.len h ?_))
  refine Wl.make (r := Rd.int) (z := 0) (fun _ => ⟨rfl, rfl, by unfold I64; omega⟩) h (by omega) (by decide) fun H u h => Wi.fieldAddr0 (Wl.get h rfl (Wl.len h ?_))
  have h := h.asData (i := 0) rfl
  have e0 : List.replicate p.2.length (0 : Int) = (List.range n).map fun _ => 0 := by
    rw [hql]
    apply List.ext_getElem <;> simp
  rw [e0] at h
  refine W.for_rule n (fun x s H => s = (.int .i64 (x : Nat), ()) ∧ Ab.Loc H0 [.data RS [u] ((List.range n).map fun k => if ofZ = true ∧ k < x then -(mAt p.1 k i) else 0), .box b [u1, u2], .lent RS [u2] p.2, .lent RSS [u1] p.1] H) ⟨rfl, by simpa using h⟩ ?_
  rintro x s H J hx ⟨rfl, h⟩ hJ
  have hI : I64 ((x : Int) + 1) := by unfold I64; omega
  refine Wi.lssC (fun hlt => Wi.tru ?_) fun hge => Wi.fls ?_
  · have hxn : x < n := by omega
    have hxl : x < p.1.length := by omega
    have hrl := hsq.2 _ (List.getElem_mem hxl)
    refine Wl.at1 rfl h hxl fun w hw => ?_
    cases ofZ with
    | true =>
      have hil : i < p.1[x].length := by omega
      have e1 : p.1[x][i] = mAt p.1 x i := (mAt_at hxl hil).symm
      have b1 := hp.m x i
      refine Wi.tru (Wl.atIntH hw hil fun _ => Wi.neg (by rw [e1]; unfold I64; omega) (Wl.setInt h (by simpa using hxn) (by rw [e1]; unfold I64; omega) fun H h => Wi.add hI (hJ _ _ hxn ⟨rfl, ?_⟩)))
      rw [e1, range_set (g := fun k => if true = true ∧ k < x + 1 then -(mAt p.1 k i) else 0) (by simp) (fun k _ hk => by
        by_cases g : k < x
        · simp [g, show k < x + 1 by omega]
        · simp [g, show ¬ k < x + 1 by omega])] at h
      exact h
    | false =>
      refine Wi.fls (Wi.add hI (hJ _ _ hxn ⟨rfl, ?_⟩))
      simpa using h
  · have : x = n := by omega
    subst this
    cases ofZ with
    | true =>
      simp only [gw]
      refine hQ _ _ ?_
      have e : columnV x p.1 true i = (List.range x).map fun k => if true = true ∧ k < x then -(mAt p.1 k i) else 0 := List.map_congr_left fun k hk => by
        rw [if_pos rfl, if_pos ⟨rfl, by simpa using hk⟩]
      rw [e]
      exact h.ret (i := 0) rfl
    | false =>
      simp only [gw]
      refine Wl.setInt h (by simpa using hi) (by unfold I64; omega) fun H h => hQ _ _ ?_
      rw [range_set (g := fun k => if k = i then 1 else 0) (by simp) (fun k _ hk => by simp [hk])] at h
      have e : columnV x p.1 false i = (List.range x).map fun k => if k = i then 1 else 0 := List.map_congr_left fun k hk => by simp
      rw [e]
      exact h.ret (i := 0) rfl

theorem fn148 {H0 : Heap} {Q : Post} {cs : List Value} {p : Prob} {n s : Nat} (hr : Has RProblem H0 cs p) (hp : PB n p) (hs : s < 9223372036854775808) (hQ : ∀ H' u, Fresh RSS H0 [u] (colL n p.1 s) H' → Q u H') :
    Runs Tryz.prog 148 #[.agg cs.toArray, .int .i64 (s : Nat)] H0 Q := by
  obtain ⟨u1, u2, rfl, r1, r2⟩ := hasProb hr
  have hn := hp.n5; have hql := hp.ql; have hsq := hp.sq; have hl1 := hsq.1
  refine f148.enter ?_
  unfold f148.w
  have h := ((Loc.start H0).lent hr).lent r2
  refine Wl.box h fun H b h => Wi.fieldAddr (Wl.get h rfl (Wl.len h ?_))
  rw [hql]
  refine Wl.make (r := RS) (z := []) (fun _ => .inl ⟨rfl, rfl, .inl rfl⟩) h (by omega) (by decide) fun H v h => Wl.len h ?_
  obtain ⟨us, hus, h⟩ := h.headsE (i := 0) rfl rfl
  have e0 : List.replicate n ([] : List Int) = (List.range n).map fun r => if r < 0 then List.replicate n 0 else [] := by
    apply List.ext_getElem <;> simp
  rw [e0] at h
  rw [List.length_replicate]
  refine W.for_rule n (fun x st H => st = (.int .i64 (x : Nat), ()) ∧ ∃ us, Ab.Loc H0 [.rowsE RS v us ((List.range n).map fun r => if r < x then List.replicate n 0 else []), .box b [u1, u2], .lent RS [u2] p.2, .lent RProblem [u1, u2] p] H) ⟨rfl, us, h⟩ ?_
  rintro x st H J hx ⟨rfl, us, h⟩ hJ
  refine Wi.lssC (fun hlt => Wi.tru ?_) fun hge => Wi.fls ?_
  · have hxn : x < n := by omega
    refine Wl.make (r := Rd.int) (z := 0) (fun _ => ⟨rfl, rfl, by unfold I64; omega⟩) h (by omega) (by decide) fun H u h => ?_
    have h := h.asData (i := 0) rfl
    refine Wl.putRowE rfl h (i := 1) (j := 0) (by simpa using hxn) (by omega) fun H h => Wi.add (by unfold I64; omega) (hJ _ _ hxn ⟨rfl, us.set x u, ?_⟩)
    have e : ((List.range n).map fun r => if r < x then List.replicate n (0 : Int) else []).set x (List.replicate n 0) = (List.range n).map fun r => if r < x + 1 then List.replicate n 0 else [] := by
      apply List.ext_getElem
      · simp
      · intro k h1 h2
        rw [List.getElem_set]
        simp only [List.getElem_map, List.getElem_range]
        by_cases g : x = k
        · subst g; simp
        · rw [if_neg g]
          by_cases g2 : k < x
          · rw [if_pos g2, if_pos (by omega)]
          · rw [if_neg g2, if_neg (by omega)]
    have h := h.tl
    rw [e] at h
    exact h
  have : x = n := by omega
  subst this
  have h := h.unrowsE (i := 0) rfl
  have e1 : ((List.range x).map fun r => if r < x then List.replicate x (0 : Int) else []) = colTo x p.1 s 0 := by
    unfold colTo tabL
    refine List.map_congr_left fun r hr => ?_
    rw [if_pos (by simpa using hr)]
    apply List.ext_getElem <;> simp
  rw [e1] at h
  refine W.for_rule x (fun i st H => st = (.int .i64 (i : Nat), ()) ∧ Ab.Loc H0 [.data RSS [v] (colTo x p.1 s i), .box b [u1, u2], .lent RS [u2] p.2, .lent RProblem [u1, u2] p] H) ⟨rfl, h⟩ ?_
  rintro i st H J2 hi ⟨rfl, h⟩ hJ2
  refine Wi.lssC (fun hlt => Wi.tru ?_) fun hge => Wi.fls ?_
  · have hin : i < x := by omega
    refine Wl.getA h rfl (Wi.callQ (fn128 hs (by omega) ⟨.refl _, Wi.callQ (fn164 (h.rd (cs := [u1, u2])) hp hin fun H1 u f => ⟨f.le, ?_⟩)⟩))
    have h := h.add f
    obtain ⟨bs, bc, g1, g2, g3, g4, g5, g6⟩ := h.apart (i := 1) (j := 0) rfl rfl (by omega)
    have hsq2 := tabL_sq x fun r c => if c < i then colE p.1 s r c else 0
    refine Wi.call (fn151 g1 g2 g3 g4 g5 (fun r hr => by rw [hsq2.2 r hr]; exact hin) (by rw [show (colTo x p.1 s i).length = x from hsq2.1]; simp [columnV]) fun H2 m => Wi.add (by unfold I64; omega) (hJ2 _ _ hin ⟨rfl, ?_⟩))
    have h := (g6 _ _ m).tl
    rw [colTo_step hin] at h
    exact h
  · have : i = x := by omega
    subst this
    rw [colTo_all] at h
    exact hQ _ _ (h.ret (i := 0) rfl)

theorem fn125 {H0 : Heap} {Q : Post} {cs : List Value} {vr : Value} {p : Prob} {n s : Nat} {right : List Int} (hr : Has RProblem H0 cs p) (hp : PB n p) (hs : s < 9223372036854775808) (hx : Has RS H0 [vr] right) (hrl : right.length = n) (hrb : ∀ e ∈ right, e.natAbs ≤ 100)
    (h1 : det n (mAt (colL n p.1 s)) = 0 → ∀ H', H0.Le H' → Q (.tuple #[.slice none 0 0, .int .i64 0, .bool false]) H')
    (h2 : det n (mAt (colL n p.1 s)) ≠ 0 → ∀ H' u, Fresh RS H0 [u] (pointL n (colL n p.1 s) right) H' → Q (.tuple #[u, .int .i64 (det n (mAt (colL n p.1 s))).natAbs, .bool true]) H') :
    Runs Tryz.prog 125 #[.agg cs.toArray, .int .i64 (s : Nat), vr] H0 Q := by
  obtain ⟨u1, u2, rfl, r1, r2⟩ := hasProb hr
  have hn := hp.n5
  refine f125.enter ?_
  unfold f125.w
  have h := ((Loc.start H0).lent hr).lent hx
  have hcs := tabL_sq n (colE p.1 s)
  have hcr := colL_rows (m := p.1) s hn fun r c _ _ => hp.m r c
  refine Wl.box h fun H b h => Wl.getA h rfl (Wi.call (fn148 (h.rd (cs := [u1, u2])) hp hs fun H vr' f => ?_))
  have h := h.add f
  refine Wi.call (fn149 (h.rd (cs := [vr'])) hcs hn hcr fun H l => ?_)
  have h := h.to l
  have hD := det200 hn hcr
  refine Wi.eqlC (fun hz => Wi.tru (h1 hz _ h.le)) fun hnz => Wi.fls (Wl.len h ?_)
  rw [hrl]
  refine Wl.make (r := Rd.int) (z := 0) (fun _ => ⟨rfl, rfl, by unfold I64; omega⟩) h (by omega) (by decide) fun H u h => Wl.len h ?_
  have h := h.asData (i := 0) rfl
  rw [List.length_replicate]
  have e0 : List.replicate n (0 : Int) = (List.range n).map fun k => if k < 0 then sgI (det n (mAt (colL n p.1 s))) * det n (mAt (putCol k right (colL n p.1 s))) else 0 := by
    apply List.ext_getElem <;> simp
  rw [e0] at h
  refine W.for_rule n (fun x st H => st = (.int .i64 (x : Nat), ()) ∧ Ab.Loc H0 [.data RS [u] ((List.range n).map fun k => if k < x then sgI (det n (mAt (colL n p.1 s))) * det n (mAt (putCol k right (colL n p.1 s))) else 0), .data RSS [vr'] (colL n p.1 s), .box b [u1, u2], .lent RS [vr] right, .lent RProblem [u1, u2] p] H) ⟨rfl, h⟩ ?_
  rintro x st H J hxx ⟨rfl, h⟩ hJ
  refine Wi.lssC (fun hlt => Wi.tru ?_) fun hge => Wi.fls ?_
  · have hxn : x < n := by omega
    refine Wi.call (fn150 (h.rd (cs := [vr'])) ⟨by rw [show (colL n p.1 s).length = n from hcs.1]; omega, fun r hr => by rw [hcs.2 r hr]; omega⟩ fun H w g => ?_)
    have h := (h.add g.fresh)
    obtain ⟨bs, bc, g1, g2, g3, g4, g5, g6⟩ := h.apartL (i := 0) rfl hx
    refine Wi.call (fn151 g1 g2 g3 g4 g5 (fun r hr => by rw [hcs.2 r hr]; exact hxn) (by rw [show (colL n p.1 s).length = n from hcs.1, hrl]; exact Nat.le_refl _) fun H2 m => ?_)
    have h := g6 _ _ m
    have hpr := putCol_rows (k := x) hcs hn (fun r c hr hc => by rw [show mAt (tabL n (colE p.1 s)) r c = colE p.1 s r c from tabL_at hr hc]; exact colE_abs (hp.m r c)) hrb hxn
    have hpd := det200 hn hpr
    refine Wi.call (fn152 (Wi.call (fn149 (h.rd (cs := [w])) (putCol_sq hcs) hn hpr fun H l => ?_)))
    have h := (h.to l).tl
    have hI : (sgI (det n (mAt (colL n p.1 s))) * det n (mAt (putCol x right (colL n p.1 s)))).natAbs ≤ 1 * 320000000000 := mulA (sgI_abs _) hpd
    refine Wi.mul (i64A hI (by decide)) (Wl.setInt h (by simpa using hxn) (i64A hI (by decide)) fun H h => Wi.add (by unfold I64; omega) (hJ _ _ hxn ⟨rfl, ?_⟩))
    rw [range_set (g := fun k => if k < x + 1 then sgI (det n (mAt (colL n p.1 s))) * det n (mAt (putCol k right (colL n p.1 s))) else 0) (by simp) (fun k _ hk => by
      by_cases g : k < x
      · rw [if_pos g, if_pos (by omega)]
      · rw [if_neg g, if_neg (by omega)])] at h
    exact h
  · have : x = n := by omega
    subst this
    refine Wi.call (fn109 (by unfold B64; unfold colL at hD; unfold colL; omega) ?_)
    have e : pointL x (colL x p.1 s) right = (List.range x).map fun k => if k < x then sgI (det x (mAt (colL x p.1 s))) * det x (mAt (putCol k right (colL x p.1 s))) else 0 := by
      unfold pointL solveL
      rw [List.map_map]
      refine List.map_congr_left fun k hk => ?_
      rw [if_pos (by simpa using hk)]
      rfl
    refine h2 hnz _ _ ?_
    rw [e]
    exact h.ret (i := 0) rfl

theorem fn81 {H0 : Heap} {Q : Post} {cs : List Value} {p : Prob} {n s : Nat} (hr : Has RProblem H0 cs p) (hp : PB n p) (hs : s < 9223372036854775808)
    (h1 : det n (mAt (colL n p.1 s)) = 0 → ∀ H', H0.Le H' → Q (.tuple #[.slice none 0 0, .int .i64 0, .bool false]) H')
    (h2 : det n (mAt (colL n p.1 s)) ≠ 0 → ∀ H' u, Fresh RS H0 [u] (pointL n (colL n p.1 s) p.2) H' → Q (.tuple #[u, .int .i64 (det n (mAt (colL n p.1 s))).natAbs, .bool true]) H') :
    Runs Tryz.prog 81 #[.agg cs.toArray, .int .i64 (s : Nat)] H0 Q := by
  obtain ⟨u1, u2, rfl, r1, r2⟩ := hasProb hr
  refine f81.enter ?_
  unfold f81.w
  have h := ((Loc.start H0).lent hr).lent r2
  refine Wl.box h fun H b h => Wl.getA h rfl (Wi.fieldAddr (Wl.get h rfl (Wi.call (fn125 (h.rd (cs := [u1, u2])) hp hs (h.rd (cs := [u2])) hp.ql hp.q (fun hz H l => ?_) fun hnz H u f => ?_))))
  · simp only [gw]
    exact h1 hz _ (h.to l).le
  · simp only [gw]
    exact h2 hnz _ _ ((h.add f).ret (i := 0) rfl)

end Go.Proofs.YtbcfknboheghkaaGreat

/-! The contracts of the program's IsSolution and IsStationary. No condition. -/
namespace Go.Proofs.YtbcfknboheghkaaGreat
open Go.Ab

/- loop.example/g01343/impl.fracsCode -/
/- (loop.example/g01343/impl.Problem).rest -/
/- loop.example/g01343/impl.IsSolution -/
end Go.Proofs.YtbcfknboheghkaaGreat

/-! Nothing but 0 solves a game's problem. No condition. -/
namespace Go.Proofs.YtbcfknboheghkaaGreat
open Go.Ab

abbrev zerosF (n : Nat) : List Frac := List.replicate n ((0, 1) : Frac)

end Go.Proofs.YtbcfknboheghkaaGreat
