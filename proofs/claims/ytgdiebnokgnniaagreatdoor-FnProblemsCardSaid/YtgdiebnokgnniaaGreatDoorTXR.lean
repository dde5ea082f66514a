/- Problems read from texts in the reference. No condition. -/
import Derived.Test.YtgdiebnokgnniaaGreatDoorTXS
namespace Go.Proofs.YtgdiebnokgnniaaGreatDoor
open Go.Ab

/- loop.example/g01343/spec.l01Read -/
def f81.l1 (Q : Post) (v14 : Value) (v17 : Value) (v1 : Value) (I1 : St [6, 9] → Heap → Prop) (fine_6 : Value) (i_9 : Value) (H : Heap) : Prop :=
  W.len v14 H fun v18 H =>
  W.bin .lss i_9 v18 H fun v19 H =>
  W.guarded v19 true (fun H k => k fine_6 H) H fun v20 H =>
  W.pick v19 v20 (.bool false) H fun v21 H =>
  W.cond v21 H
  (fun H => W.indexAddr 1 v14 i_9 H fun v22 H =>
   W.get v22 H fun v23 H =>
   W.call Tryz.prog (.func (.func 118) #[] #[]) #[v23] H fun v24 H =>
   W.extract 0 v24 H fun v25 H =>
   W.extract 1 v24 H fun v26 H =>
   W.fieldAddr 0 v17 H fun v27 H =>
   W.get v27 H fun v28 H =>
   W.lit 1 [(.slice none 0 0)] 25 [(0, 1, v25)] H fun v29 H =>
   W.append 1 25 v28 v29 H fun v30 H =>
   W.fieldAddr 0 v17 H fun v31 H =>
   W.put v31 v30 H fun _ H =>
   W.bin .add i_9 (.int .i64 1) H fun v32 H =>
   I1 (v26, v32, ()) H)
  (fun H => W.un .not fine_6 H fun v33 H =>
   W.guarded v33 false (fun H k => W.getN 2 v17 H k) H fun v34 H =>
   W.guarded v33 false (fun H k => W.call Tryz.prog (.func (.func 47) #[] #[]) #[v34] H k) H fun v35 H =>
   W.guarded v33 false (fun H k => W.un .not v35 H k) H fun v36 H =>
   W.pick v33 (.bool true) v36 H fun v37 H =>
   W.cond v37 H
   (fun H => W.build [(.slice none 0 0), (.slice none 0 0)] [] H fun v38 H =>
    W.putN 2 v1 v38 H fun _ H =>
    W.getN 2 v1 H fun v39 H => Q (.tuple #[v39, (.bool false)]) H)
   (fun H => W.getN 2 v17 H fun v40 H =>
    W.putN 2 v1 v40 H fun _ H =>
    W.getN 2 v1 H fun v41 H => Q (.tuple #[v41, (.bool true)]) H))
def f81.w (Q : Post) (text_0 : Value) (H : Heap) : Prop :=
  W.new [(.slice none 0 0), (.slice none 0 0)] 27 H fun v1 H =>
  W.call Tryz.prog (.func (.func 117) #[] #[]) #[text_0, (.int .u8 47)] H fun v2 H =>
  W.len v2 H fun v3 H =>
  W.bin .neq v3 (.int .i64 2) H fun v4 H =>
  W.cond v4 H
  (fun H => W.build [(.slice none 0 0), (.slice none 0 0)] [] H fun v5 H =>
   W.putN 2 v1 v5 H fun _ H =>
   W.getN 2 v1 H fun v6 H => Q (.tuple #[v6, (.bool false)]) H)
  (fun H => W.indexAddr 1 v2 (.int .i64 1) H fun v7 H =>
   W.get v7 H fun v8 H =>
   W.call Tryz.prog (.func (.func 118) #[] #[]) #[v8] H fun v9 H =>
   W.extract 0 v9 H fun v10 H =>
   W.extract 1 v9 H fun v11 H =>
   W.indexAddr 1 v2 (.int .i64 0) H fun v12 H =>
   W.get v12 H fun v13 H =>
   W.call Tryz.prog (.func (.func 117) #[] #[]) #[v13, (.int .u8 59)] H fun v14 H =>
   W.lit 0 [(.slice none 0 0)] 25 [] H fun v15 H =>
   W.build [(.slice none 0 0), (.slice none 0 0)] [(0, 1, v15), (1, 1, v10)] H fun v16 H =>
   W.new [(.slice none 0 0), (.slice none 0 0)] 27 H fun v17 H =>
   W.putN 2 v17 v16 H fun _ H =>
   W.loop (S := St [6, 9]) (fun I1 s H => f81.l1 Q v14 v17 v1 I1 s.1 s.2.1 H) (v11, (.int .i64 0), ()) H)
theorem f81.enter {Q : Post} {text_0 : Value} {H : Heap} (h : f81.w Q text_0 H) : Runs Tryz.prog 81 #[text_0] H Q :=
  fn_enter (ann := [(7, [6, 9])]) (by kernel_rfl) Tryz.func81 rfl (by kernel_rfl) h (by kernel_rfl)

/- loop.example/g01343/spec.ParseProblem -/
def f32.w (Q : Post) (text_0 : Value) (H : Heap) : Prop :=
  W.new [(.slice none 0 0), (.slice none 0 0)] 27 H fun v1 H =>
  W.call Tryz.prog (.func (.func 81) #[] #[]) #[text_0] H fun v2 H =>
  W.extract 0 v2 H fun v3 H =>
  W.extract 1 v2 H fun v4 H =>
  W.new [(.slice none 0 0), (.slice none 0 0)] 27 H fun v5 H =>
  W.putN 2 v5 v3 H fun _ H =>
  W.un .not v4 H fun v6 H =>
  W.cond v6 H
  (fun H => W.build [(.slice none 0 0), (.slice none 0 0)] [] H fun v7 H =>
   W.putN 2 v1 v7 H fun _ H =>
   W.getN 2 v1 H fun v8 H => Q (.tuple #[v8, (.int .i64 6)]) H)
  (fun H => W.getN 2 v5 H fun v9 H =>
   W.putN 2 v1 v9 H fun _ H =>
   W.getN 2 v1 H fun v10 H => Q (.tuple #[v10, (.int .i64 0)]) H)
theorem f32.enter {Q : Post} {text_0 : Value} {H : Heap} (h : f32.w Q text_0 H) : Runs Tryz.prog 32 #[text_0] H Q :=
  fn_enter (ann := []) (by kernel_rfl) Tryz.func32 rfl (by kernel_rfl) h (by kernel_rfl)


section
variable {H0 : Heap} {Q : Post}

theorem fn81 {l : List UInt8} (hlen : l.length ≤ 4294960000) (hQ : ∀ H' u1 u2, Fresh RProblem H0 [u1, u2] (parR numS l).1 H' → Q (.tuple #[.agg #[u1, u2], .bool (decide ((parR numS l).2 = 0))]) H') :
    Runs Tryz.prog 81 #[str l] H0 Q := by
  have bad : ∀ H, H0.Le H → parR numS l = (([], []), 6) → Q (.tuple #[.agg #[.slice none 0 0, .slice none 0 0], .bool false]) H := fun H l e => by
    have := hQ H (.slice none 0 0) (.slice none 0 0) (by rw [e]; exact fresh_nil2 l)
    rw [e] at this
    exact this
  refine f81.enter ?_
  unfold f81.w
  refine Wl.new (Loc.start H0) fun H b1 h => Wi.call (fn117 (c := 47) (by omega) fun H v2 f => ?_)
  have h := h.add f
  refine Wl.len h (Wi.neqC (fun hne => Wi.tru ?_) fun heq => Wi.fls ?_)
  · have ep : parR numS l = (([], []), 6) := by
      unfold parR readP
      split
      · rename_i p e
        split at e
        · rename_i a b e2
          rw [e2] at hne
          exact absurd rfl hne
        · cases e
      · rfl
    exact Wi.build (cells := [.slice none 0 0, .slice none 0 0]) rfl (Wl.putA (b := b1) (i := 1) h rfl rfl rfl fun H h => Wl.getA (b := b1) h rfl (bad _ h.le ep))
  obtain ⟨a, b, hab⟩ : ∃ a b, splitL 47 l = [a, b] := by
    generalize splitL 47 l = P at heq
    match P, heq with
    | [a, b], _ => exact ⟨a, b, rfl⟩
    | [], h => exact absurd h (by simp)
    | [_], h => exact absurd h (by simp)
    | _ :: _ :: _ :: _, h => exact absurd h (by simp; omega)
  have hal : a.length ≤ l.length ∧ b.length ≤ l.length := ⟨splitL_len (c := 47) (by rw [hab]; simp), splitL_len (c := 47) (by rw [hab]; simp)⟩
  have er : readP numS l = (match mapO (listO numS) (splitL 59 a), listO numS b with | some m, some q => some (m, q) | _, _ => none) := by
    unfold readP
    rw [hab]
    simp only []
    cases mapO (listO numS) (splitL 59 a) <;> cases listO numS b <;> rfl
  rw [hab] at h
  -- behind the numbers of the right side
  have main : ∀ H (q : Value) (qs : List Int) (fine : Bool), Ab.Loc H0 (.grow Rd.int 2 q qs :: .data RStrs [v2] [a, b] :: .box b1 [.slice none 0 0, .slice none 0 0] :: []) H → (fine = true → listO numS b = some qs) → (fine = false → listO numS b = none) →
      W.indexAddr 1 v2 (.int .i64 0) H fun v12 H =>
      W.get v12 H fun v13 H =>
      W.call Tryz.prog (.func (.func 117) #[] #[]) #[v13, (.int .u8 59)] H fun v14 H =>
      W.lit 0 [(.slice none 0 0)] 25 [] H fun v15 H =>
      W.build [(.slice none 0 0), (.slice none 0 0)] [(0, 1, v15), (1, 1, q)] H fun v16 H =>
      W.new [(.slice none 0 0), (.slice none 0 0)] 27 H fun v17 H =>
      W.putN 2 v17 v16 H fun _ H =>
      W.loop (S := St [6, 9]) (fun I1 s H => f81.l1 Q v14 v17 (pt b1 0) I1 s.1 s.2.1 H) (.bool fine, (.int .i64 0), ()) H := by
    intro H q qs fine h hf1 hf2
    refine Wl.atStrH (i := 0) (h.rd (cs := [v2]) (x := [a, b])) (by simp) (Wi.call (fn117 (l := a) (c := 59) (by omega) fun H v14 f => ?_))
    have h := h.add f
    refine Wl.lit0 (ty := 25) RS rfl h fun H u h => ?_
    have k1 := ((h.asData (i := 0) rfl).rd (cs := [u]) (r := RSS) (x := [])).one
    have k2 := ((h.asData (i := 2) rfl).rd (cs := [q]) (r := RS) (x := qs)).one
    have c1 := ((h.asData (i := 0) rfl).rd (cs := [u]) (r := RSS) (x := [])).cell1
    have c2 := ((h.asData (i := 2) rfl).rd (cs := [q]) (r := RS) (x := qs)).cell1
    refine Wi.build (cells := [u, q]) (by simp [fillA, k1, k2]) (Wl.new h fun H b17 h => Wl.putA (b := b17) (i := 0) h rfl rfl (by simp [c1, c2]) fun H h => ?_)
    have h : Ab.Loc H0 (.grow RS 25 u [] :: .box b17 [u, q] :: .box b1 [.slice none 0 0, .slice none 0 0] :: .data RStrs [v14] (splitL 59 a) :: .grow Rd.int 2 q qs :: []) H := ((((h.front 3 rfl).front 3 rfl).front 5 rfl).front 3 rfl |>.front 4 rfl).first 5
    have hcn : (splitL 59 a).length ≤ a.length + 1 := splitL_cnt
    refine W.for_rule (splitL 59 a).length (fun x st H => ∃ g u m, st = (.bool g, .int .i64 (x : Nat), ()) ∧ (g = true → mapO (listO numS) ((splitL 59 a).take x) = some m ∧ listO numS b = some qs) ∧ (g = false → readP numS l = none) ∧ m.length ≤ x ∧ Ab.Loc H0 (.grow RS 25 u m :: .box b17 [u, q] :: .box b1 [.slice none 0 0, .slice none 0 0] :: .data RStrs [v14] (splitL 59 a) :: .grow Rd.int 2 q qs :: []) H) ⟨fine, u, [], rfl, fun e => ⟨by simp [mapO], hf1 e⟩, fun e => ?_, by simp, h⟩ ?_
    · rw [er, hf2 e]
      cases mapO (listO numS) (splitL 59 a) <;> rfl
    rintro x st H J hx ⟨g, u, m, rfl, hg1, hg2, hml, h⟩ hJ
    have last : (g = true → x = (splitL 59 a).length) → (W.un .not (.bool g) H fun v33 H =>
        W.guarded v33 false (fun H k => W.getN 2 (pt b17 0) H k) H fun v34 H =>
        W.guarded v33 false (fun H k => W.call Tryz.prog (.func (.func 47) #[] #[]) #[v34] H k) H fun v35 H =>
        W.guarded v33 false (fun H k => W.un .not v35 H k) H fun v36 H =>
        W.pick v33 (.bool true) v36 H fun v37 H =>
        W.cond v37 H
        (fun H => W.build [(.slice none 0 0), (.slice none 0 0)] [] H fun v38 H =>
          W.putN 2 (pt b1 0) v38 H fun _ H =>
          W.getN 2 (pt b1 0) H fun v39 H => Q (.tuple #[v39, (.bool false)]) H)
        (fun H => W.getN 2 (pt b17 0) H fun v40 H =>
          W.putN 2 (pt b1 0) v40 H fun _ H =>
          W.getN 2 (pt b1 0) H fun v41 H => Q (.tuple #[v41, (.bool true)]) H)) := fun hxe => by
      cases g with
      | false =>
        have ep : parR numS l = (([], []), 6) := by unfold parR; rw [hg2 rfl]
        simp only [gw]
        exact Wi.build (cells := [.slice none 0 0, .slice none 0 0]) rfl (Wl.putA (b := b1) (i := 2) h rfl rfl rfl fun H h => Wl.getA (b := b1) h rfl (bad _ h.le ep))
      | true =>
        obtain ⟨hm, hq⟩ := hg1 rfl
        rw [hxe rfl, List.take_length] at hm
        have er2 : readP numS l = some (m, qs) := by rw [er, hm, hq]
        simp only [gw]
        have ku := (h.asData (i := 0) rfl).rd (cs := [u]) (r := RSS) (x := m)
        have kq := (h.asData (i := 4) rfl).rd (cs := [q]) (r := RS) (x := qs)
        have cu := ku.cell1
        have cq := kq.cell1
        have hp : Has RProblem H [u, q] (m, qs) := by
          obtain ⟨c1, q1⟩ := ku
          obtain ⟨c2, q2⟩ := kq
          exact ⟨c1 ++ c2, _, _, _, _, rfl, rfl, q1, q2⟩
        refine Wl.getA (b := b17) h rfl ?_
        obtain ⟨bs, q1⟩ := hp
        refine Wi.call (fn47 q1 fun H lh => Wi.not ?_)
        have h := h.to lh
        try simp only [gw]
        by_cases hp : isProb (m, qs) = true
        · rw [hp]
          simp only [Bool.not_true, gw]
          have kc : [u, q].all isCell = true := by simp [cu, cq]
          refine Wl.getA (b := b17) h rfl (Wl.putA (b := b1) (i := 2) h rfl rfl kc fun H h => Wl.getA (b := b1) h rfl ?_)
          have h := (h.asData (i := 0) rfl).asData (i := 4) rfl
          have ep : parR numS l = ((m, qs), 0) := by unfold parR; rw [er2]; simp only [if_pos hp]
          have := hQ H u q (by rw [ep]; exact h.ret2 (i := 0) (j := 4) rfl rfl (by decide))
          rw [ep] at this
          exact this
        · rw [Bool.not_eq_true] at hp
          rw [hp]
          simp only [Bool.not_false, gw]
          have ep : parR numS l = (([], []), 6) := by unfold parR; rw [er2]; simp [hp]
          exact Wi.build (cells := [.slice none 0 0, .slice none 0 0]) rfl (Wl.putA (b := b1) (i := 2) h rfl rfl rfl fun H h => Wl.getA (b := b1) h rfl (bad _ h.le ep))
    refine Wl.lenH (h.rd (cs := [v14]) (r := RStrs) (x := splitL 59 a)) (Wi.lssC (fun hlt => ?_) fun hge => ?_)
    · have hxl : x < (splitL 59 a).length := by omega
      cases g with
      | false =>
        simp only [gw]
        exact last fun e => by cases e
      | true =>
        obtain ⟨hm, hq⟩ := hg1 rfl
        simp only [gw]
        have ht : (splitL 59 a).take (x + 1) = (splitL 59 a).take x ++ [(splitL 59 a)[x]] := by rw [List.take_succ_eq_append_getElem hxl]
        refine Wl.atStrH (h.rd (cs := [v14]) (x := splitL 59 a)) hxl (Wi.call (fn118 (by have := splitL_len (List.getElem_mem hxl); omega) (fun r hr H w f => ?_) fun hr H lh => ?_))
        · simp only [gw]
          have h := h.addG f
          have h := h.asData (i := 0) rfl
          refine Wi.fieldAddr (Wl.get (b := b17) h rfl ?_)
          have hcu := (h.rd (cs := [w]) (r := RS) (x := r)).one
          refine Wl.pushO (r := RS) (u := w) (x := r) (i := 1) (j := 0) (L2 := fun v' => .data RS [w] r :: .grow RS 25 v' (m ++ [r]) :: .box b17 [u, q] :: .box b1 [.slice none 0 0, .slice none 0 0] :: .data RStrs [v14] (splitL 59 a) :: .grow Rd.int 2 q qs :: []) (L3 := fun v' => .emp :: .grow RS 25 v' (m ++ [r]) :: .box b17 [u, q] :: .box b1 [.slice none 0 0, .slice none 0 0] :: .data RStrs [v14] (splitL 59 a) :: .grow Rd.int 2 q qs :: []) rfl h (by decide) hcu (by omega) fun H u' h => ?_
          have h := h.tl
          have k1 := ((h.asData (i := 0) rfl).rd (cs := [u']) (r := RSS) (x := m ++ [r])).cell1
          refine Wi.fieldAddr (Wl.put (b := b17) (o := 0) (i := 1) h k1 (by simp) fun H h => Wi.add (by unfold I64; omega) (hJ _ _ hxl ⟨true, u', m ++ [r], rfl, fun _ => ⟨?_, hq⟩, fun e => (by cases e), by simp; omega, h⟩))
          rw [ht, mapO_snoc hm, hr]
          rfl
        · simp only [gw]
          have h := h.to lh
          have h : Ab.Loc H0 (.data RS [.slice none 0 0] [] :: .grow RS 25 u m :: .box b17 [u, q] :: .box b1 [.slice none 0 0, .slice none 0 0] :: .data RStrs [v14] (splitL 59 a) :: .grow Rd.int 2 q qs :: []) H := (h.nilG Rd.int 2).asData (i := 0) rfl
          refine Wi.fieldAddr (Wl.get (b := b17) h rfl ?_)
          refine Wl.pushO (r := RS) (u := .slice none 0 0) (x := []) (i := 1) (j := 0) (L2 := fun v' => .data RS [.slice none 0 0] [] :: .grow RS 25 v' (m ++ [[]]) :: .box b17 [u, q] :: .box b1 [.slice none 0 0, .slice none 0 0] :: .data RStrs [v14] (splitL 59 a) :: .grow Rd.int 2 q qs :: []) (L3 := fun v' => .emp :: .grow RS 25 v' (m ++ [[]]) :: .box b17 [u, q] :: .box b1 [.slice none 0 0, .slice none 0 0] :: .data RStrs [v14] (splitL 59 a) :: .grow Rd.int 2 q qs :: []) rfl h (by decide) rfl (by omega) fun H u' h => ?_
          have h := h.tl
          have k1 := ((h.asData (i := 0) rfl).rd (cs := [u']) (r := RSS) (x := m ++ [[]])).cell1
          refine Wi.fieldAddr (Wl.put (b := b17) (o := 0) (i := 1) h k1 (by simp) fun H h => Wi.add (by unfold I64; omega) (hJ _ _ hxl ⟨false, u', m ++ [[]], rfl, fun e => (by cases e), fun _ => ?_, by simp; omega, h⟩))
          rw [er, mapO_no (List.getElem_mem hxl) hr]
    · simp only [gw]
      exact last fun _ => by omega
  refine Wl.atStrH (i := 1) (h.rd (cs := [v2]) (x := [a, b])) (by simp) (Wi.call (fn118 (l := b) (by omega) (fun q hq H w f => ?_) fun hq H lh => ?_))
  · simp only [gw]
    exact main H w q true (h.addG f) (fun _ => hq) fun e => by cases e
  · simp only [gw]
    exact main H _ [] false ((h.to lh).nilG Rd.int 2) (fun e => by cases e) fun _ => hq

theorem fn32 {l : List UInt8} (hlen : l.length ≤ 4294960000) (hQ : ∀ H' u1 u2, Fresh RProblem H0 [u1, u2] (parR numS l).1 H' → Q (.tuple #[.agg #[u1, u2], .int .i64 (parR numS l).2]) H') :
    Runs Tryz.prog 32 #[str l] H0 Q := by
  refine f32.enter ?_
  unfold f32.w
  refine Wl.new (Loc.start H0) fun H b1 h => Wi.call (fn81 hlen fun H w1 w2 f => ?_)
  have h := h.add f
  simp only [gw]
  have hc := hasProb (h.rd (cs := [w1, w2]) (r := RProblem) (x := (parR numS l).1))
  obtain ⟨_, _, e, g1, g2⟩ := hc
  cases e
  have kc : [w1, w2].all isCell = true := by simp [g1.cell1, g2.cell1]
  refine Wl.new h fun H b5 h => Wl.putA (b := b5) (i := 0) h rfl rfl kc fun H h => ?_
  by_cases he : (parR numS l).2 = 0
  · rw [decide_eq_true he]
    simp only [gw]
    refine Wl.getA (b := b5) h rfl (Wl.putA (b := b1) (i := 2) h rfl rfl kc fun H h => Wl.getA (b := b1) h rfl ?_)
    have := hQ H w1 w2 (h.ret (i := 1) rfl)
    rw [he] at this
    exact this
  · rw [decide_eq_false he]
    simp only [gw]
    have ep : parR numS l = (([], []), 6) := by
      unfold parR at he ⊢
      split
      · rename_i p e
        rw [e] at he
        by_cases hp : isProb p = true
        · simp [hp] at he
        · simp [hp]
      · rfl
    refine Wi.build (cells := [.slice none 0 0, .slice none 0 0]) rfl (Wl.putA (b := b1) (i := 2) h rfl rfl rfl fun H h => Wl.getA (b := b1) h rfl ?_)
    have := hQ H (.slice none 0 0) (.slice none 0 0) (by rw [ep]; exact fresh_nil2 h.le)
    rw [ep] at this
    exact this

end
end Go.Proofs.YtgdiebnokgnniaaGreatDoor
