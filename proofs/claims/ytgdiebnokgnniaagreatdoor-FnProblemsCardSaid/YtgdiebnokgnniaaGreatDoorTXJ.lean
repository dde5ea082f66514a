/- Problems read from texts, and their texts, in the program. Condition: the library's variables hold what they were laid with. -/
import Derived.Test.YtgdiebnokgnniaaGreatDoorTXI
import Derived.Test.YtgdiebnokgnniaaGreatDoorGVV
import Derived.Test.YtgdiebnokgnniaaGreatDoorGDS
namespace Go.Proofs.YtgdiebnokgnniaaGreatDoor
open Go.Ab

/- loop.example/g01343/impl.ProblemText -/
def f15.w (Q : Post) (p_0 : Value) (H : Heap) : Prop :=
  W.box p_0 27 H fun v1 H =>
  W.getN 2 v1 H fun v2 H =>
  W.call Tryz.prog (.func (.func 11) #[] #[]) #[v2] H fun v3 H =>
  W.un .not v3 H fun v4 H =>
  W.cond v4 H
  (fun H => Q (.tuple #[(.string { data := #[] }), (.int .i64 1)]) H)
  (fun H => W.fieldAddr 0 v1 H fun v5 H =>
   W.get v5 H fun v6 H =>
   W.callQ Tryz.prog (.func (.func 51) #[] #[]) #[v6] H fun v7 H =>
   W.bin .add v7 (.string { data := #[47] }) H fun v8 H =>
   W.fieldAddr 1 v1 H fun v9 H =>
   W.get v9 H fun v10 H =>
   W.callQ Tryz.prog (.func (.func 52) #[] #[]) #[v10, (.string { data := #[44] })] H fun v11 H =>
   W.bin .add v8 v11 H fun v12 H =>
   Q (.tuple #[v12, (.int .i64 0)]) H)
theorem f15.enter {Q : Post} {p_0 : Value} {H : Heap} (h : f15.w Q p_0 H) : Runs Tryz.prog 15 #[p_0] H Q :=
  fn_enter (ann := []) (by kernel_rfl) Tryz.func15 rfl (by kernel_rfl) h (by kernel_rfl)

/- loop.example/g01343/impl.ParseProblem -/
def f16.l1 (Q : Post) (v11 : Value) (v10 : Value) (v1 : Value) (v9 : Value) (v4 : Value) (I1 : St [26] → Heap → Prop) (x_26 : Value) (H : Heap) : Prop :=
  W.bin .lss x_26 v11 H fun v12 H =>
  W.cond v12 H
  (fun H => W.indexAddr 1 v10 x_26 H fun v13 H =>
   W.get v13 H fun v14 H =>
   W.call Tryz.prog (.func (.func 55) #[] #[]) #[v14] H fun v15 H =>
   W.extract 0 v15 H fun v16 H =>
   W.extract 1 v15 H fun v17 H =>
   W.un .not v17 H fun v18 H =>
   W.cond v18 H
   (fun H => W.build [(.slice none 0 0), (.slice none 0 0)] [] H fun v19 H =>
    W.putN 2 v1 v19 H fun _ H =>
    W.getN 2 v1 H fun v20 H => Q (.tuple #[v20, (.int .i64 6)]) H)
   (fun H => W.fieldAddr 0 v9 H fun v21 H =>
    W.get v21 H fun v22 H =>
    W.lit 1 [(.slice none 0 0)] 25 [(0, 1, v16)] H fun v23 H =>
    W.append 1 25 v22 v23 H fun v24 H =>
    W.fieldAddr 0 v9 H fun v25 H =>
    W.put v25 v24 H fun _ H =>
    W.bin .add x_26 (.int .i64 1) H fun v26 H =>
    I1 (v26, ()) H))
  (fun H => W.call Tryz.prog (.func (.func 55) #[] #[]) #[v4] H fun v27 H =>
   W.extract 0 v27 H fun v28 H =>
   W.extract 1 v27 H fun v29 H =>
   W.fieldAddr 1 v9 H fun v30 H =>
   W.put v30 v28 H fun _ H =>
   W.un .not v29 H fun v31 H =>
   W.guarded v31 false (fun H k => W.getN 2 v9 H k) H fun v32 H =>
   W.guarded v31 false (fun H k => W.call Tryz.prog (.func (.func 11) #[] #[]) #[v32] H k) H fun v33 H =>
   W.guarded v31 false (fun H k => W.un .not v33 H k) H fun v34 H =>
   W.pick v31 (.bool true) v34 H fun v35 H =>
   W.cond v35 H
   (fun H => W.build [(.slice none 0 0), (.slice none 0 0)] [] H fun v36 H =>
    W.putN 2 v1 v36 H fun _ H =>
    W.getN 2 v1 H fun v37 H => Q (.tuple #[v37, (.int .i64 6)]) H)
   (fun H => W.getN 2 v9 H fun v38 H =>
    W.putN 2 v1 v38 H fun _ H =>
    W.getN 2 v1 H fun v39 H => Q (.tuple #[v39, (.int .i64 0)]) H))
def f16.w (Q : Post) (text_0 : Value) (H : Heap) : Prop :=
  W.new [(.slice none 0 0), (.slice none 0 0)] 27 H fun v1 H =>
  W.call Tryz.prog (.func (.func 53) #[] #[]) #[text_0, (.string { data := #[47] })] H fun v2 H =>
  W.extract 0 v2 H fun v3 H =>
  W.extract 1 v2 H fun v4 H =>
  W.extract 2 v2 H fun v5 H =>
  W.un .not v5 H fun v6 H =>
  W.cond v6 H
  (fun H => W.build [(.slice none 0 0), (.slice none 0 0)] [] H fun v7 H =>
   W.putN 2 v1 v7 H fun _ H =>
   W.getN 2 v1 H fun v8 H => Q (.tuple #[v8, (.int .i64 6)]) H)
  (fun H => W.new [(.slice none 0 0), (.slice none 0 0)] 27 H fun v9 H =>
   W.call Tryz.prog (.func (.func 54) #[] #[]) #[v3, (.string { data := #[59] })] H fun v10 H =>
   W.len v10 H fun v11 H =>
   W.loop (S := St [26]) (fun I1 s H => f16.l1 Q v11 v10 v1 v9 v4 I1 s.1 H) ((.int .i64 0), ()) H)
theorem f16.enter {Q : Post} {text_0 : Value} {H : Heap} (h : f16.w Q text_0 H) : Runs Tryz.prog 16 #[text_0] H Q :=
  fn_enter (ann := [(6, [26])]) (by kernel_rfl) Tryz.func16 rfl (by kernel_rfl) h (by kernel_rfl)


/-- What is read of a text, and the error. -/
def parR (num : List UInt8 → Option Int) (l : List UInt8) : Prob × Int :=
  match readP num l with
  | some p => if isProb p = true then (p, 0) else (([], []), 6)
  | none => (([], []), 6)

theorem prob_small {p : Prob} (h : isProb p = true) : (∀ r ∈ p.1, ∀ v ∈ r, v.natAbs ≤ 20) ∧ (∀ v ∈ p.2, v.natAbs ≤ 100) ∧ p.1 ≠ [] ∧ (∀ r ∈ p.1, r ≠ []) ∧ p.2 ≠ [] ∧ p.1.length ≤ 5 ∧ ∀ r ∈ p.1, r.length ≤ 5 := by
  obtain ⟨_, h1, h2, h3, h4, h5⟩ := isProb_rows h
  have hp := PB.of h
  refine ⟨fun r hr v hv => ?_, fun v hv => hp.q v hv, fun e => ?_, fun r hr e => ?_, fun e => ?_, ?_, fun r hr => ?_⟩
  · have := (h4 r hr).2 v hv; omega
  · have g : p.1.length = 0 := by rw [e]; rfl
    have := hp.n0; omega
  · have g1 := (h4 r hr).1
    have g : r.length = 0 := by rw [e]; rfl
    have := hp.n0; omega
  · have g : p.2.length = 0 := by rw [e]; rfl
    have := hp.n0; omega
  · have := hp.n5; omega
  · have := (h4 r hr).1; have := hp.n5; omega

/-- Both sides read the same. -/
theorem par_eq (l : List UInt8) : parR numI l = parR numS l := by
  unfold parR
  cases hi : readP numI l with
  | some p =>
    simp only
    by_cases hp : isProb p = true
    · obtain ⟨h1, h2, _⟩ := prob_small hp
      rw [readP_imp hi fun x y hy hx => numS_I hx (by
        rcases hy with ⟨r, hr, hy⟩ | hy
        · have := h1 r hr y hy; omega
        · have := h2 y hy; omega)]
    · rw [if_neg hp]
      cases hs : readP numS l with
      | none => rfl
      | some p' =>
        have := readP_imp (g := numI) hs fun x y _ hx => numI_S hx
        rw [hi] at this
        cases this
        simp only [if_neg hp]
  | none =>
    cases hs : readP numS l with
    | none => rfl
    | some p' =>
      have := readP_imp (g := numI) hs fun x y _ hx => numI_S hx
      rw [hi] at this
      cases this

/-- A problem comes back from its text. -/
theorem par_text {p : Prob} (h : isProb p = true) : parR numI (textP p) = (p, 0) := by
  obtain ⟨h1, h2, h3, h4, h5, _⟩ := prob_small h
  unfold parR
  rw [readP_text h3 h4 h5 (fun r hr v hv => numI_iff.2 ⟨rfl, by have := h1 r hr v hv; omega, by have := h1 r hr v hv; omega⟩) fun v hv => numI_iff.2 ⟨rfl, by have := h2 v hv; omega, by have := h2 v hv; omega⟩]
  simp only [if_pos h]

section
variable {H0 : Heap} {Q : Post}

theorem fn15 {cs : List Value} {p : Prob} (hl : LibOK H0) (hr : Has RProblem H0 cs p) (hok : isProb p = true → ∀ H', H0.Le H' → Q (.tuple #[str (textP p), .int .i64 0]) H') (hno : ¬ isProb p = true → ∀ H', H0.Le H' → Q (.tuple #[str [], .int .i64 1]) H') :
    Runs Tryz.prog 15 #[.agg cs.toArray] H0 Q := by
  obtain ⟨u1, u2, rfl, r1, r2⟩ := hasProb hr
  refine f15.enter ?_
  unfold f15.w
  have h := (((Loc.start H0).lent r1).lent r2).lent hr
  refine Wl.box h fun H b h => Wl.getA h rfl ?_
  obtain ⟨bs, q⟩ := h.rd (cs := [u1, u2]) (r := RProblem)
  refine Wi.call (fn11 q fun H l => Wi.not ?_)
  have h := h.to l
  by_cases hp : isProb p = true
  · rw [hp]
    obtain ⟨_, _, _, _, _, g1, g2⟩ := prob_small hp
    have hpb := PB.of hp
    have hI1 : ∀ r ∈ p.1, ∀ v ∈ r, I64 v := has_i64s r1
    have hI2 : ∀ v ∈ p.2, I64 v := r2.i64
    have hb1 := join_len (c := 59) (B := 110) (ps := p.1.map (joinI 44)) fun t ht => by
      obtain ⟨r, hrm, rfl⟩ := List.mem_map.1 ht
      have h1 := joinI_len (c := 44) (l := r) (hI1 r hrm)
      have h2 := g2 r hrm
      omega
    rw [List.length_map] at hb1
    have hb1 : (rowsT p.1).length ≤ p.1.length * (110 + 1) := hb1
    have hb2 := joinI_len (c := 44) (l := p.2) hI2
    have hn5 := hpb.n5
    refine Wi.fls (Wi.fieldAddr (Wl.get h rfl (Wi.callQ (fn51 (hl.le h.le) (h.rd (cs := [u1]) (x := p.1)) (by omega) (fun r hr => by have := g2 r hr; omega) fun H l => ⟨l, ?_⟩))))
    have h := h.to l
    refine Wi.cat (a := rowsT p.1) (b := [47]) (by simp; omega) (Wi.fieldAddr (Wl.get h rfl (Wi.callQ (fn52 (c := 44) (hl.le h.le) (h.rd (cs := [u2]) (x := p.2)) (by omega) fun H l => ⟨l, ?_⟩))))
    have h := h.to l
    refine Wi.cat (a := rowsT p.1 ++ [47]) (b := joinI 44 p.2) (by simp; omega) ?_
    have e : rowsT p.1 ++ [47] ++ joinI 44 p.2 = textP p := by simp [textP]
    rw [e]
    exact hok hp _ h.le
  · rw [Bool.not_eq_true] at hp
    rw [hp]
    exact Wi.tru (hno (by rw [hp]; decide) _ h.le)

/-- The last part: the numbers behind the rows. -/
theorem parse_end {b9 b1 : Nat} {H : Heap} {u : Value} {m : List (List Int)} {b l : List UInt8} {L : List (Atom H0.next)} (hl : LibOK H0) (hb : b.length ≤ 4294960000)
    (h : Ab.Loc H0 (.grow RS 25 u m :: .box b9 [u, .slice none 0 0] :: .box b1 [.slice none 0 0, .slice none 0 0] :: L) H)
    (e : readP numI l = (match some m, listO numI b with | some m, some q => some (m, q) | _, _ => none))
    (hQ : ∀ H' u1 u2, Fresh RProblem H0 [u1, u2] (parR numI l).1 H' → Q (.tuple #[.agg #[u1, u2], .int .i64 (parR numI l).2]) H')
    (K : Post) (hK : ∀ v H, K v H = (W.extract 0 v H fun v28 H =>
      W.extract 1 v H fun v29 H =>
      W.fieldAddr 1 (pt b9 0) H fun v30 H =>
      W.put v30 v28 H fun _ H =>
      W.un .not v29 H fun v31 H =>
      W.guarded v31 false (fun H k => W.getN 2 (pt b9 0) H k) H fun v32 H =>
      W.guarded v31 false (fun H k => W.call Tryz.prog (.func (.func 11) #[] #[]) #[v32] H k) H fun v33 H =>
      W.guarded v31 false (fun H k => W.un .not v33 H k) H fun v34 H =>
      W.pick v31 (.bool true) v34 H fun v35 H =>
      W.cond v35 H
      (fun H => W.build [(.slice none 0 0), (.slice none 0 0)] [] H fun v36 H =>
        W.putN 2 (pt b1 0) v36 H fun _ H =>
        W.getN 2 (pt b1 0) H fun v37 H => Q (.tuple #[v37, (.int .i64 6)]) H)
      (fun H => W.getN 2 (pt b9 0) H fun v38 H =>
        W.putN 2 (pt b1 0) v38 H fun _ H =>
        W.getN 2 (pt b1 0) H fun v39 H => Q (.tuple #[v39, (.int .i64 0)]) H))) :
    W.call Tryz.prog (.func (.func 55) #[] #[]) #[str b] H K := by
  have bad : ∀ H, H0.Le H → parR numI l = (([], []), 6) → Q (.tuple #[.agg #[.slice none 0 0, .slice none 0 0], .int .i64 6]) H := fun H lh e => by
    have := hQ H (.slice none 0 0) (.slice none 0 0) (by rw [e]; exact fresh_nil2 lh)
    rw [e] at this
    exact this
  refine Wi.call (fn55 (hl.le h.le) (by omega) (fun q hq H w f => ?_) fun hq H lh => ?_)
  · rw [hK]
    have h := h.add f
    simp only [gw]
    have kw := (h.rd (cs := [w]) (r := RS) (x := q)).cell1
    refine Wi.fieldAddr (Wl.put (b := b9) (o := 1) (i := 2) h kw (by simp) fun H h => ?_)
    have h : Ab.Loc H0 (.data RS [w] q :: .grow RS 25 u m :: .box b9 [u, w] :: .box b1 [.slice none 0 0, .slice none 0 0] :: L) H := h
    try simp only [gw]
    have ku := (h.asData (i := 1) rfl).rd (cs := [u]) (r := RSS) (x := m)
    have hp : Has RProblem H [u, w] (m, q) := by
      obtain ⟨c1, q1⟩ := ku
      obtain ⟨c2, q2⟩ := h.rd (cs := [w]) (r := RS) (x := q)
      exact ⟨c1 ++ c2, _, _, _, _, rfl, rfl, q1, q2⟩
    refine Wl.getA (b := b9) h rfl ?_
    obtain ⟨bs, q1⟩ := hp
    refine Wi.call (fn11 q1 fun H lh => Wi.not ?_)
    have h := h.to lh
    try simp only [gw]
    have er : readP numI l = some (m, q) := by rw [e, hq]
    by_cases hp : isProb (m, q) = true
    · rw [hp]
      simp only [Bool.not_true, gw]
      have k1 := ku.cell1
      have kc : [u, w].all isCell = true := by simp [k1, kw]
      refine Wl.getA (b := b9) h rfl (Wl.putA (b := b1) (i := 3) h rfl rfl kc fun H h => Wl.getA (b := b1) h rfl ?_)
      have h := h.asData (i := 1) rfl
      have ep : parR numI l = ((m, q), 0) := by unfold parR; rw [er]; simp only [if_pos hp]
      have := hQ H u w (by rw [ep]; exact h.ret2 (i := 1) (j := 0) rfl rfl (by decide))
      rw [ep] at this
      exact this
    · rw [Bool.not_eq_true] at hp
      rw [hp]
      simp only [Bool.not_false, gw]
      have ep : parR numI l = (([], []), 6) := by unfold parR; rw [er]; simp [hp]
      exact Wi.build (cells := [.slice none 0 0, .slice none 0 0]) rfl (Wl.putA (b := b1) (i := 3) h rfl rfl rfl fun H h => Wl.getA (b := b1) h rfl (bad _ h.le ep))
  · rw [hK]
    have h := h.to lh
    simp only [gw]
    refine Wi.fieldAddr (Wl.put (b := b9) (o := 1) (i := 1) h rfl (by simp) fun H h => ?_)
    try simp only [gw]
    have er : readP numI l = none := by rw [e, hq]
    have ep : parR numI l = (([], []), 6) := by unfold parR; rw [er]
    exact Wi.build (cells := [.slice none 0 0, .slice none 0 0]) rfl (Wl.putA (b := b1) (i := 2) h rfl rfl rfl fun H h => Wl.getA (b := b1) h rfl (bad _ h.le ep))

theorem fn16 {l : List UInt8} (hl : LibOK H0) (hlen : l.length ≤ 4294960000) (hQ : ∀ H' u1 u2, Fresh RProblem H0 [u1, u2] (parR numI l).1 H' → Q (.tuple #[.agg #[u1, u2], .int .i64 (parR numI l).2]) H') :
    Runs Tryz.prog 16 #[str l] H0 Q := by
  have bad : ∀ H, H0.Le H → parR numI l = (([], []), 6) → Q (.tuple #[.agg #[.slice none 0 0, .slice none 0 0], .int .i64 6]) H := fun H l e => by
    have := hQ H (.slice none 0 0) (.slice none 0 0) (by rw [e]; exact fresh_nil2 l)
    rw [e] at this
    exact this
  refine f16.enter ?_
  unfold f16.w
  refine Wl.new (Loc.start H0) fun H b1 h => Wi.call (fn53 (c := 47) (hl.le h.le) (by omega) ?_)
  simp only [gw]
  by_cases hc : (47 : UInt8) ∈ l
  · obtain ⟨a, b, e, ha, hcut⟩ := cut_hit hc
    rw [hcut]
    have hal : a.length ≤ 4294960000 ∧ b.length ≤ 4294960000 := by rw [e] at hlen; simp at hlen; omega
    simp only [gw]
    refine Wl.new h fun H b9 h => Wi.call (fn54 (c := 59) (hl.le h.le) (by omega) fun H v10 f => ?_)
    have h := h.add f
    refine Wl.len h ?_
    have h : Ab.Loc H0 (.grow RS 25 (.slice none 0 0) [] :: .box b9 [.slice none 0 0, .slice none 0 0] :: .box b1 [.slice none 0 0, .slice none 0 0] :: .data RStrs [v10] (splitL 59 a) :: []) H := ((((h.nilG RS 25).front 3 rfl).front 3 rfl).front 2 rfl)
    have hcn : (splitL 59 a).length ≤ a.length + 1 := splitL_cnt
    have er := readP_cut (num := numI) (fun x => numI_no) e ha
    refine W.for_rule (splitL 59 a).length (fun x st H => ∃ u m, st = (.int .i64 (x : Nat), ()) ∧ mapO (listO numI) ((splitL 59 a).take x) = some m ∧ Ab.Loc H0 (.grow RS 25 u m :: .box b9 [u, .slice none 0 0] :: .box b1 [.slice none 0 0, .slice none 0 0] :: .data RStrs [v10] (splitL 59 a) :: []) H) ⟨_, [], rfl, by simp [mapO], h⟩ ?_
    rintro x st H J hx ⟨u, m, rfl, hm, h⟩ hJ
    refine Wi.lssC (fun hlt => Wi.tru ?_) fun hge => Wi.fls ?_
    · have hxl : x < (splitL 59 a).length := by omega
      have ht : (splitL 59 a).take (x + 1) = (splitL 59 a).take x ++ [(splitL 59 a)[x]] := by rw [List.take_succ_eq_append_getElem hxl]
      have hml : m.length = x := by rw [mapO_length hm, List.length_take]; omega
      refine Wl.atStrH (h.rd (cs := [v10]) (x := splitL 59 a)) hxl (Wi.call (fn55 (hl.le h.le) (by have := splitL_len (List.getElem_mem hxl); omega) (fun r hr H w f => ?_) fun hr H lh => ?_))
      · simp only [gw]
        have h := h.add f
        refine Wi.fieldAddr (Wl.get (b := b9) h rfl ?_)
        have hcu := (h.rd (cs := [w]) (r := RS) (x := r)).one
        refine Wl.pushO (r := RS) (u := w) (x := r) (i := 1) (j := 0) (L2 := fun v' => .data RS [w] r :: .grow RS 25 v' (m ++ [r]) :: .box b9 [u, .slice none 0 0] :: .box b1 [.slice none 0 0, .slice none 0 0] :: .data RStrs [v10] (splitL 59 a) :: []) (L3 := fun v' => .emp :: .grow RS 25 v' (m ++ [r]) :: .box b9 [u, .slice none 0 0] :: .box b1 [.slice none 0 0, .slice none 0 0] :: .data RStrs [v10] (splitL 59 a) :: []) rfl h (by decide) hcu (by omega) fun H u' h => ?_
        have h := h.tl
        have k1 := ((h.asData (i := 0) rfl).rd (cs := [u']) (r := RSS) (x := m ++ [r])).cell1
        refine Wi.fieldAddr (Wl.put (b := b9) (o := 0) (i := 1) h k1 (by simp) fun H h => Wi.add (by unfold I64; omega) (hJ _ _ hxl ⟨u', m ++ [r], rfl, ?_, h⟩))
        rw [ht, mapO_snoc hm, hr]
        rfl
      · simp only [gw]
        have h := h.to lh
        have ep : parR numI l = (([], []), 6) := by
          unfold parR
          rw [er, mapO_no (List.getElem_mem hxl) hr]
        exact Wi.build (cells := [.slice none 0 0, .slice none 0 0]) rfl (Wl.putA (b := b1) (i := 2) h rfl rfl rfl fun H h => Wl.getA (b := b1) h rfl (bad _ h.le ep))
    · have hxl : x = (splitL 59 a).length := by omega
      rw [hxl, List.take_length] at hm
      rw [hm] at er
      exact parse_end hl hal.2 h er hQ _ fun v H => rfl
  · rw [cut_miss hc]
    simp only [gw]
    have ep : parR numI l = (([], []), 6) := by unfold parR; rw [readP_none hc]
    exact Wi.build (cells := [.slice none 0 0, .slice none 0 0]) rfl (Wl.putA (b := b1) (i := 0) h rfl rfl rfl fun H h => Wl.getA (b := b1) h rfl (bad _ h.le ep))

end
end Go.Proofs.YtgdiebnokgnniaaGreatDoor
