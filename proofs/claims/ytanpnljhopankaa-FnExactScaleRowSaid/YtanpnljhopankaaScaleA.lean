/- Contracts of the copying functions that the law FnExactScaleRow reaches. No condition. -/
import Derived.Test.YtanpnljhopankaaDeskC
import Derived.Test.YtanpnljhopankaaZabUpd
namespace Go.Proofs.Ytanpnljhopankaa
open Go.Ab

theorem src_ints {H : Heap} {bs : List Nat} {v : Value} {zs : List Int} (h : RS.rel H bs [v] zs) (hz : 0 < zs.length) : ∃ b o e, v = .slice (some (adr b o)) zs.length e ∧ srcCells 1 H v = some (zs.length, zs.map (fun x => .int .i64 x)) := by
  obtain ⟨b, o, e, kb, fs, q1, _, s⟩ := Rd.slice_at h hz
  refine ⟨b, o, e, q1, ?_⟩
  have hroom := s.room
  simp only [Rd.int] at hroom
  rw [q1]
  simp only [srcCells, Heap.getN, s.blk, Option.bind_some, Option.map_eq_some_iff]
  refine ⟨_, by rw [if_pos (by omega)], ?_⟩
  congr 1
  apply List.ext_getElem
  · simp; omega
  · intro i h1 h2
    have hi : i < zs.length := by simpa using h2
    obtain ⟨u, m1, r1⟩ := s.one rfl hi
    obtain ⟨_, hu, _⟩ := r1
    simp only [List.cons.injEq, and_true] at hu
    subst hu
    simp only [List.getElem_take, List.getElem_drop, List.getElem_map]
    rw [Nat.mul_one] at m1
    have := (List.getElem?_eq_some_iff.1 m1).2
    exact this

theorem i64s {H : Heap} {bs : List Nat} {v : Value} {zs : List Int} (h : RS.rel H bs [v] zs) : ∀ x ∈ zs, I64 x := fun x hx => by
  obtain ⟨i, hi, rfl⟩ := List.mem_iff_getElem.1 hx
  obtain ⟨b, o, e, kb, fs, q1, _, s⟩ := Rd.slice_at h hi
  exact (s.each i hi).2.2

/-- A copy of a list, appended to nothing. -/
theorem own_ok {H0 H H1 : Heap} {bs : List Nat} {v : Value} {zs : List Int} {K : Post} (hr : RS.rel H bs [v] zs) (hz : 0 < zs.length) (hlen : zs.length ≤ 16777216) (l0 : H0.Le H) (l : H.Le H1) (hn : H1.next = H.next + 1) (hb : H1.blk H.next = some ⟨[], 2, 1, false⟩)
    (hK : ∀ H' u, Gr Rd.int 2 H0 u zs H' → H.Le H' → K u H') : W.append 1 2 (.slice (some (adr H.next 0)) 0 0) v H1 K := by
  obtain ⟨b, o, e, q, hs⟩ := src_ints (Rd.le _ hr l) hz
  have g0 : Gr Rd.int 2 H (.slice (some (adr H.next 0)) 0 0) [] H1 := Gr.lit0 l hb (by omega) (Nat.le_refl _) rfl rfl rfl rfl
  refine g0.append (zs := zs) (new := zs.map (fun x => .int .i64 x)) (.refl _) rfl hs hz (by simp) (by simp [isCell]) (by simpa using hlen) (fun _ => []) (fun i h h' => ⟨⟨rfl, by simp, i64s hr _ (List.getElem_mem h)⟩, List.nodup_nil, (fun c hc => by cases hc), fun c hc => by cases hc⟩)
    (fun i j _ _ c hc => by cases hc) fun H2 u g2 _ => ?_
  rw [List.nil_append] at g2
  refine hK H2 u ⟨l0.trans g2.le, (l0.trans g2.le).next, ?_⟩ g2.le
  rcases g2.gr.shape with h | ⟨b, e, kb, fs, h0, h1, h2, h3, h4, h5, h5', h5'', h6, h6', h7, h8, h9⟩
  · exact .inl h
  · exact .inr ⟨b, e, kb, fs, h0, h1, h2, h3, h4, h5, h5', h5'', h6, h6', Nat.le_trans l0.next h7, fun i hi => ⟨(h8 i hi).1, (h8 i hi).2.1, fun c hc => ⟨Nat.le_trans l0.next ((h8 i hi).2.2.1 c hc).1, ((h8 i hi).2.2.1 c hc).2⟩, (h8 i hi).2.2.2⟩, h9⟩

theorem fn69 {H : Heap} {Q : Post} {bs : List Nat} {v : Value} {zs : List Int} (hr : RS.rel H bs [v] zs) (hz : 0 < zs.length) (hlen : zs.length ≤ 16777216) (hQ : ∀ H' u, Fresh RS H [u] zs H' → Q u H') : Runs Try.prog 69 #[v] H Q := by
  obtain ⟨b, o, e, q, _⟩ := src_ints hr hz
  refine f69.enter ?_
  unfold f69.w
  rw [q]
  refine ⟨(fun h => by cases h), Wi.fls ?_⟩
  rw [← q]
  exact Wi.lit (cells := []) rfl fun H1 l1 n1 k1 => own_ok hr hz hlen (.refl _) l1 n1 k1 fun H' u g _ => hQ H' u g.fresh

theorem fn67 {H : Heap} {Q : Post} {bs : List Nat} {v : Value} {zs : List Int} (hr : RS.rel H bs [v] zs) (hz : 0 < zs.length) (hlen : zs.length ≤ 16777216) (hQ : ∀ H' u, Fresh RS H [u] zs H' → Q u H') : Runs Try.prog 67 #[v] H Q := by
  refine f67.enter ?_
  unfold f67.w
  exact Wi.lit (cells := []) rfl fun H1 l1 n1 k1 => own_ok hr hz hlen (.refl _) l1 n1 k1 fun H' u g _ => hQ H' u g.fresh

/-- Rows that may be copied. -/
def okRows (m : List (List Int)) : Prop := m.length ≤ 1048576 ∧ ∀ r ∈ m, 0 < r.length ∧ r.length ≤ 1048576

theorem fn68 {H : Heap} {Q : Post} {bs : List Nat} {v : Value} {m : List (List Int)} (hr : RSS.rel H bs [v] m) (hm : okRows m) (hQ : ∀ H' u, Fresh RSS H [u] m H' → Q u H') : Runs Try.prog 68 #[v] H Q := by
  refine f68.enter ?_
  unfold f68.w
  refine Wi.lenOf hr ?_
  refine W.loop_rule (fun s H' => ∃ (zs ws : List (List Int)) (u : Value), m = zs ++ ws ∧ s = (u, .int .i64 zs.length, ()) ∧ Gr RS 23 H u zs H')
    (fun s _ => match s.2.1 with | .int _ i => m.length - i.toNat | _ => 0) ⟨[], m, .slice none 0 0, rfl, rfl, .nil (.refl _)⟩ ?_
  rintro s H1 ⟨zs, ws, u, hm2, rfl, g⟩
  unfold f68.l1
  refine Wi.lss (Wi.cond (fun hlt => ?_) fun hge => ?_)
  · have hz : zs.length < m.length := by simp only [decide_eq_true_eq] at hlt; omega
    cases ws with
    | nil => rw [hm2] at hz; simp at hz
    | cons x ws =>
      have hget : m[zs.length] = x := by simp [hm2]
      have hx := hm.2 x (by rw [hm2]; simp)
      refine Wi.at1 rfl (Rd.le _ hr g.le) hz fun u1 b1 r1 => ?_
      rw [hget] at r1
      refine Wi.call (fn69 r1 hx.1 (by omega) fun H2 u2 f2 => Wi.lit (cells := [u2]) ?_ fun H3 l3 n3 k3 => ?_)
      · obtain ⟨_, p, _⟩ := f2.has
        obtain ⟨a, e, he⟩ := Rd.slice_val p
        simp only [List.cons.injEq, and_true] at he
        subst he
        rfl
      · refine g.push rfl f2 l3 k3 (by have := hm.1; omega) fun H4 v' g4 _ => Wi.add (by have := hm.1; unfold I64; omega) ⟨⟨zs ++ [x], ws, v', by rw [hm2]; simp, ?_, g4⟩, by simp only; simp; omega⟩
        simp
        rfl
  · have hz : zs.length = m.length := by
      have : zs.length ≤ m.length := by rw [hm2]; simp
      simp only [decide_eq_false_iff_not] at hge
      omega
    have : ws = [] := by
      rw [hm2] at hz
      simp at hz
      exact hz
    subst this
    rw [List.append_nil] at hm2
    subst hm2
    exact hQ H1 u g.fresh

theorem fn52 {H : Heap} {Q : Post} {bs : List Nat} {cs : List Value} {p : Prob} (hr : RProblem.rel H bs cs p) (hm : okRows p.1) (hq : 0 < p.2.length ∧ p.2.length ≤ 1048576) (hQ : ∀ H' cs', Fresh RProblem H cs' p H' → Q (.agg cs'.toArray) H') :
    Runs Try.prog 52 #[.agg cs.toArray] H Q := by
  obtain ⟨u1, u2, b1, b2, rfl, _, hr1, hr2⟩ := prob_cells hr
  refine f52.enter ?_
  unfold f52.w
  refine Wi.box fun H1 l1 n1 k1 => Wi.new fun H2 l2 n2 k2 => Wi.fieldAddr0 (Wi.get (l2.at k1 (by omega)) rfl (Wi.callQ (fn68 (Rd.le _ hr1 (l1.trans l2)) hm fun H3 w1 f1 => ⟨f1.le, ?_⟩)))
  refine Wi.fieldAddr0 (Wi.get ((l2.trans f1.le).at k1 (by omega)) rfl (Wi.callQ (fn69 (Rd.le _ hr2 (l1.trans (l2.trans f1.le))) hq.1 (by omega) fun H4 w2 f2 => ⟨f2.le, ?_⟩)))
  have f := f1.pair f2
  obtain ⟨_, p1, _⟩ := f.has
  obtain ⟨_, q1, _⟩ := f1.has
  obtain ⟨_, q2, _⟩ := f2.has
  have c1 := RSS.cell q1
  have c2 := RS.cell q2
  obtain ⟨a1, e1, g1⟩ := Rd.slice_val q1
  obtain ⟨a2, e2, g2⟩ := Rd.slice_val q2
  simp only [List.cons.injEq, and_true] at g1 g2
  subst g1
  subst g2
  refine Wi.build (cells := [_, _]) rfl (Wi.putN ((f1.le.trans f2.le).at k2 (by omega)) rfl rfl rfl (by simp) fun H5 w5 => Wi.getN w5.here (by simp) (hQ H5 _ (f.put (l1.trans l2) w5 (by have := l1.next; omega) (by omega))))

theorem fn50 {H : Heap} {Q : Post} {bs : List Nat} {cs : List Value} {p : Prob} (hr : RProblem.rel H bs cs p) (hm : okRows p.1) (hm0 : 0 < p.1.length) (hq : 0 < p.2.length ∧ p.2.length ≤ 1048576) (hQ : ∀ H' cs', Fresh RProblem H cs' p H' → Q (.agg cs'.toArray) H') :
    Runs Try.prog 50 #[.agg cs.toArray] H Q := by
  obtain ⟨u1, u2, b1, b2, rfl, _, hr1, hr2⟩ := prob_cells hr
  refine f50.enter ?_
  unfold f50.w
  refine Wi.box fun H1 l1 n1 k1 => Wi.new fun H2 l2 n2 k2 => Wi.lit (cells := []) rfl fun H3 l3 n3 k3 => Wi.fieldAddr0 (Wi.get ((l2.trans l3).at k1 (by omega)) rfl (Wi.call (fn67 (Rd.le _ hr2 (l1.trans (l2.trans l3))) hq.1 (by omega) fun H4 q fq => ?_)))
  obtain ⟨bq, rq, ndq, frq, rwq⟩ := fq.has
  obtain ⟨aq, eq, gq⟩ := Rd.slice_val rq
  simp only [List.cons.injEq, and_true] at gq
  subst gq
  have nq := fq.le.next
  refine Wi.build (cells := [_, _]) rfl (Wi.var rfl rfl rfl fun H5 l5 n5 k5 => ?_)
  have lowq := RS.low rq
  have l15 := l2.trans (l3.trans (fq.le.trans l5))
  -- the loop: the block of the copy, its first cell growing
  have n2' := l2.next
  have n3' := l3.next
  have n5' := l5.next
  have hx := Rd.slice_small hr1
  have leH : ∀ H' : Heap, H5.next ≤ H'.next → (∀ c, c < H4.next → H'.blk c = H5.blk c) → H.Le H' := fun H' hn hb => ⟨by have := l1.next; omega, fun c hc => by
    have := l1.next
    rw [hb c (by omega), l15.blk c (by omega), l1.blk c hc]⟩
  have at1 : ∀ H' : Heap, (∀ c, c < H4.next → H'.blk c = H5.blk c) → H'.blk H.next = some ⟨[u1, u2], 25, 2, false⟩ := fun H' hb => by rw [hb _ (by omega)]; exact l15.at k1 (by omega)
  have at2 : ∀ H' : Heap, (∀ c, c < H4.next → H'.blk c = H5.blk c) → H'.blk H1.next = some ⟨[.slice none 0 0, .slice none 0 0], 25, 2, false⟩ := fun H' hb => by rw [hb _ (by omega)]; exact (l3.trans (fq.le.trans l5)).at k2 (by omega)
  have at3 : ∀ H' : Heap, (∀ c, c < H4.next → H'.blk c = H5.blk c) → H'.blk H2.next = some ⟨[], 23, 1, false⟩ := fun H' hb => by rw [hb _ (by omega)]; exact (fq.le.trans l5).at k3 (by omega)
  refine W.loop_rule (fun s H' => ∃ (zs ws : List (List Int)) (u : Value), p.1 = zs ++ ws ∧ s = (.int .i64 zs.length, ()) ∧ H5.next ≤ H'.next ∧ H'.blk H4.next = some ⟨[u, .slice aq p.2.length eq], 25, 2, false⟩ ∧ (∀ c, c < H4.next → H'.blk c = H5.blk c) ∧
      ((zs = [] ∧ u = .slice (some (adr H2.next 0)) 0 0) ∨ GrN RS 23 H5.next u zs H'))
    (fun s _ => match s.1 with | .int _ i => p.1.length - i.toNat | _ => 0) ⟨[], p.1, _, rfl, rfl, Nat.le_refl _, k5, fun _ _ => rfl, .inl ⟨rfl, rfl⟩⟩ ?_
  rintro s H6 ⟨zs, ws, u, hzs, rfl, h6, k6, e6, g⟩
  unfold f50.l1
  have le6 := leH H6 h6 e6
  refine Wi.fieldAddr0 (Wi.get (at1 H6 e6) rfl (Wi.lenOf (Rd.le _ hr1 le6) (Wi.lss (Wi.cond (fun hlt => ?_) fun hge => ?_))))
  · have hz : zs.length < p.1.length := by simp only [decide_eq_true_eq] at hlt; omega
    cases ws with
    | nil => rw [hzs] at hz; simp at hz
    | cons x ws =>
      have hget : p.1[zs.length] = x := by simp [hzs]
      have hxr := hm.2 x (by rw [hzs]; simp)
      refine Wi.fieldAddr0 (Wi.get k6 rfl (Wi.fieldAddr0 (Wi.get (at1 H6 e6) rfl (Wi.at1 rfl (Rd.le _ hr1 le6) hz fun ux bx rx => ?_))))
      rw [hget] at rx
      refine Wi.callQ (fn67 rx hxr.1 (by omega) fun H7 w7 f7 => ⟨f7.le, Wi.lit (cells := [w7]) ?_ fun H8 l8 n8 k8 => ?_⟩)
      · obtain ⟨_, pp, _⟩ := f7.has
        obtain ⟨a, e, he⟩ := Rd.slice_val pp
        simp only [List.cons.injEq, and_true] at he
        subst he
        rfl
      have l68 := f7.le.trans l8
      have rest : ∀ (H9 : Heap) (v' : Value), GrN RS 23 H5.next v' (zs ++ [x]) H9 → H8.next ≤ H9.next → (∀ c, c < H5.next → H9.blk c = H8.blk c) →
          W.fieldAddr 0 (pt H4.next 0) H9 fun v22 H => W.put v22 v' H fun _ H => W.bin .add (.int .i64 zs.length) (.int .i64 1) H fun v23 H =>
            (fun s' H' => (∃ (zs ws : List (List Int)) (u : Value), p.1 = zs ++ ws ∧ s' = (.int .i64 zs.length, ()) ∧ H5.next ≤ H'.next ∧ H'.blk H4.next = some ⟨[u, .slice aq p.2.length eq], 25, 2, false⟩ ∧ (∀ c, c < H4.next → H'.blk c = H5.blk c) ∧
              ((zs = [] ∧ u = .slice (some (adr H2.next 0)) 0 0) ∨ GrN RS 23 H5.next u zs H')) ∧ (match s'.1 with | .int _ i => p.1.length - i.toNat | _ => 0) < p.1.length - zs.length) ((v23, ()) : St [4]) H := by
        intro H9 v' g9 h9 e9
        have l68n := l68.next
        have k9 : H9.blk H4.next = some ⟨[u, .slice aq p.2.length eq], 25, 2, false⟩ := by rw [e9 _ (by omega), l68.blk _ (by omega)]; exact k6
        have hcell : isCell v' = true := by
          obtain ⟨_, r9, _⟩ := g9.has
          simpa using RSS.cell r9
        refine Wi.fieldAddr0 (Wi.put k9 hcell rfl (by simp) fun H10 w10 => Wi.add (by unfold I64; omega) ⟨⟨zs ++ [x], ws, v', by rw [hzs]; simp, ?_, by rw [w10.next]; omega, w10.here, fun c hc => ?_, .inr (g9.put (by rw [w10.next]; exact Nat.le_refl _) fun c hc _ => w10.off c (by omega))⟩, by simp only; omega⟩)
        · simp
          rfl
        · rw [w10.off c (by omega), e9 c (by omega), l68.blk c (by omega)]
          exact e6 c hc
      rcases g with ⟨rfl, rfl⟩ | g
      · exact GrN.push0 (by rw [l68.blk _ (by omega)]; exact at3 H6 e6) h6 rfl f7 l8 k8 fun H9 v' g9 l9 => rest H9 v' g9 l9.next fun c hc => l9.blk c (by have := l68.next; omega)
      · exact g.push rfl f7 l8 k8 (by have := hm.1; omega) fun H9 v' g9 h9 e9 => rest H9 v' g9 h9 e9
  · have hz : zs.length = p.1.length := by
      have : zs.length ≤ p.1.length := by rw [hzs]; simp
      simp only [decide_eq_false_iff_not] at hge
      omega
    have : ws = [] := by
      rw [hzs] at hz
      simp at hz
      exact hz
    subst this
    rw [List.append_nil] at hzs
    rcases g with ⟨rfl, _⟩ | g
    · rw [hzs] at hm0; simp at hm0
    obtain ⟨bs1, r1, nd1, lo1, rw1⟩ := g.has
    have c1 := RSS.cell r1
    simp only [List.all_cons, List.all_nil, Bool.and_true] at c1
    refine Wi.getN k6 (by simp) (Wi.putN (at2 H6 e6) rfl (by simpa [isCell] using c1) rfl (by simp) fun H7 w7 => Wi.getN w7.here (by simp) (hQ H7 _ ?_))
    have l1n := l1.next
    have ne1 : ∀ c ∈ bs1, c ≠ H1.next := fun c hc e => by have := lo1 c hc; omega
    have neq : ∀ c ∈ bq, c ≠ H1.next := fun c hc e => by have := frq c hc; omega
    have eq6 : ∀ c ∈ bq, H6.blk c = H4.blk c := fun c hc => by rw [e6 c (lowq c hc), l5.blk c (lowq c hc)]
    refine ⟨⟨by rw [w7.next]; exact le6.next, fun c hc => by rw [w7.off c (by omega)]; exact le6.blk c hc⟩, bs1 ++ bq, ⟨bs1, bq, [u], [.slice aq p.2.length eq], rfl, rfl, ?_, ?_⟩, List.nodup_append.2 ⟨nd1, ndq, fun a ha b hb e => by have := lo1 a ha; have := lowq b hb; omega⟩, fun c hc => ?_, fun c hc kc hk => ?_⟩
    · rw [hzs]
      exact RSS.frame r1 (by rw [w7.next]; exact Nat.le_refl _) fun c hc => w7.off c (ne1 c hc)
    · exact RS.frame rq (by rw [w7.next]; omega) fun c hc => by rw [w7.off c (neq c hc), eq6 c hc]
    · rcases List.mem_append.1 hc with hc | hc
      · have := lo1 c hc; omega
      · have := frq c hc; omega
    · rcases List.mem_append.1 hc with hc | hc
      · rw [w7.off c (ne1 c hc)] at hk; exact rw1 c hc kc hk
      · rw [w7.off c (neq c hc), eq6 c hc] at hk; exact rwq c hc kc hk

end Go.Proofs.Ytanpnljhopankaa
