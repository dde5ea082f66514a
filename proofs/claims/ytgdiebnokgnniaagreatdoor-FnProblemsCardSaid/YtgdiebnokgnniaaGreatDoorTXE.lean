/- The draw of a text: the loop ends, and its text is not too long. Condition: the code is not longer than 4096 bytes. -/
import Derived.Test.YtgdiebnokgnniaaGreatDoorTXD
namespace Go.Proofs.YtgdiebnokgnniaaGreatDoor
open Go.Ab

/- loop.example/g01343/spec.l01Small -/
def f79.w (Q : Post) (s_0 : Value) (H : Heap) : Prop :=
  W.new [(.slice none 0 0), (.slice none 0 0)] 27 H fun v1 H =>
  W.call Tryz.prog (.func (.func 60) #[] #[]) #[s_0, (.int .i64 3)] H fun v2 H =>
  W.bin .add (.int .i64 1) v2 H fun v3 H =>
  W.call Tryz.prog (.func (.func 110) #[] #[]) #[s_0, v3] H fun v4 H =>
  W.putN 2 v1 v4 H fun _ H =>
  W.getN 2 v1 H fun v5 H => Q v5 H
theorem f79.enter {Q : Post} {s_0 : Value} {H : Heap} (h : f79.w Q s_0 H) : Runs Tryz.prog 79 #[s_0] H Q :=
  fn_enter (ann := []) (by kernel_rfl) Tryz.func79 rfl (by kernel_rfl) h (by kernel_rfl)

/- loop.example/g01343/spec.DrawParseProblem -/
def f31.l1 (Q : Post) (v1 : Value) (I1 : St [4] → Heap → Prop) (text_4 : Value) (H : Heap) : Prop :=
  W.call Tryz.prog (.func (.func 60) #[] #[]) #[v1, (.int .i64 3)] H fun v4 H =>
  W.bin .eql v4 (.int .i64 0) H fun v5 H =>
  W.cond v5 H
  (fun H => W.call Tryz.prog (.func (.func 80) #[] #[]) #[v1, text_4] H fun v6 H =>
   I1 (v6, ()) H)
  (fun H => Q text_4 H)
def f31.w (Q : Post) (code_0 : Value) (H : Heap) : Prop :=
  W.call Tryz.prog (.func (.func 57) #[] #[]) #[code_0] H fun v1 H =>
  W.call Tryz.prog (.func (.func 79) #[] #[]) #[v1] H fun v2 H =>
  W.call Tryz.prog (.func (.func 78) #[] #[]) #[v2] H fun v3 H =>
  W.loop (S := St [4]) (fun I1 s H => f31.l1 Q v1 I1 s.1 H) (v3, ()) H
theorem f31.enter {Q : Post} {code_0 : Value} {H : Heap} (h : f31.w Q code_0 H) : Runs Tryz.prog 31 #[code_0] H Q :=
  fn_enter (ann := [(3, [4])]) (by kernel_rfl) Tryz.func31 rfl (by kernel_rfl) h (by kernel_rfl)


section
variable {H0 H : Heap} {L : List (Atom H0.next)} {Q : Post} {b i a g : Nat} {vc : Value} {code : List Int}

theorem fnB79 (h : Ab.Loc H0 L H) (hi : L[i]? = some (.src b vc code)) (hQ : ∀ H' u1 u2 p n, Ab.Loc H0 (.data RProblem [u1, u2] p :: L) H' → n ≤ 3 → IsN n p → IsB p → Q (.agg #[u1, u2]) H') : Runs Tryz.prog 79 #[pt b 0] H Q := by
  refine f79.enter ?_
  unfold f79.w
  refine Wl.new h fun H b1 h => Wi.call (fn60 (i := i + 1) h (by simpa using hi) fun H x h hx hx' => ?_)
  have := hx' (by decide)
  obtain ⟨n, hn⟩ : ∃ n : Nat, 1 + x = (n : Int) := ⟨(1 + x).toNat, by omega⟩
  refine Wi.add (by unfold I64; omega) ?_
  rw [hn]
  refine Wi.call (fnB110 (i := i + 1) h (by simpa using hi) (by omega) fun H u1 u2 p h hp hb => ?_)
  have kc := (h.rd (cs := [u1, u2]) (r := RProblem)).cell
  refine Wl.putA (b := b1) (i := 1) h rfl rfl kc fun H h => Wl.getA (b := b1) h rfl ?_
  exact hQ _ u1 u2 p n (h.cut 1) (by omega) hp hb

/-- What holds ahead of each round. -/
def DpInv (len : Nat) (n t a g : Nat) : Prop := (a < len ∧ t ≤ 1000 + a ∧ n = 4611686018427387904 + (len - a)) ∨ (a = len ∧ ∃ m, RunOK 6000 t g m ∧ n + m = 4611686018427387904)

theorem DpInv.short {len n t a g : Nat} (h : DpInv len n t a g) (hl : len ≤ 4096) : t ≤ 1140860000 := by
  rcases h with ⟨h1, h2, _⟩ | ⟨_, m, h, _⟩
  · omega
  · have := h.len
    omega

theorem DpInv.next {len n t t' a g k : Nat} (h : DpInv len n t a g) (hl : len ≤ 4096) (hz : a = len → lcgY (lcg g) % 3 = 0) (hk : k = 4 ∧ t' ≤ t + 1 ∨ k = 2 ∧ t' = 1 ∧ t = 0) :
    ∃ n', n' < n ∧ DpInv len n' t' (min (a + k) len) (lcgN k g) := by
  rcases h with ⟨h1, h2, h3⟩ | ⟨h1, m, h2, h3⟩
  · by_cases hc : a + k < len
    · refine ⟨4611686018427387904 + (len - (a + k)), by omega, .inl ⟨by omega, by omega, by omega⟩⟩
    · exact ⟨4611686018427387904, by omega, .inr ⟨by omega, 0, RunOK.start (by omega), rfl⟩⟩
  · have hb := h2.bound
    have ha : min (a + k) len = len := by omega
    rw [ha]
    rcases hk with ⟨rfl, ht⟩ | ⟨rfl, rfl, rfl⟩
    · exact ⟨n - 4, by omega, .inr ⟨rfl, m + 4, h2.four (hz h1) ht, by omega⟩⟩
    · exact ⟨n - 2, by omega, .inr ⟨rfl, m + 2, h2.two (hz h1) (by decide), by omega⟩⟩

theorem fn31 {H0 : Heap} {Q : Post} {vc : Value} {code : List Int} (hc : Has RBytes H0 [vc] code) (hcl : code.length ≤ 4096) (hQ : ∀ H' t, H0.Le H' → t.length ≤ 1140860000 → Q (str t) H') : Runs Tryz.prog 31 #[vc] H0 Q := by
  refine f31.enter ?_
  unfold f31.w
  refine Wi.call (fn57 hc (Loc.start H0) fun H b h => ?_)
  refine Wi.call (fnB79 (i := 0) h rfl fun H u1 u2 p n h hn hp hb => ?_)
  have hr := h.rd (cs := [u1, u2]) (r := RProblem) (x := p)
  have hb2 : ∀ r ∈ p.1, r.length ≤ 1048576 ∧ ∀ x ∈ r, x.natAbs ≤ 1000000000000 := fun r hr => ⟨by have := hp.2.1 r hr; omega, fun x hx => by have := hb.1 r hr x hx; omega⟩
  refine Wi.call (fn78 hr (by have := hp.1; omega) hb2 (by have := hp.2.2; omega) (fun x hx => by have := hb.2 x hx; omega) fun H l => ?_)
  have h := (h.to l).tl
  have hT : (textP p).length ≤ 1000 := by
    obtain ⟨_, _, e, g1, g2⟩ := hasProb hr
    have e1 := join_len (c := 59) (B := 66) (ps := p.1.map (joinI 44)) fun t ht => by
      obtain ⟨r, hrm, rfl⟩ := List.mem_map.1 ht
      have h1 := joinI_len (c := 44) (l := r) (has_i64s g1 r hrm)
      have h2 := hp.2.1 r hrm
      omega
    rw [List.length_map] at e1
    have e1 : (rowsT p.1).length ≤ p.1.length * (66 + 1) := e1
    have e2 := joinI_len (c := 44) (l := p.2) g2.i64
    have e3 := hp.1
    have e4 := hp.2.2
    unfold textP
    rw [List.length_append, List.length_cons]
    omega
  obtain ⟨a, g, ha, h⟩ := h.toH (i := 0) rfl
  have h : Ab.Loc H0 (.srcH b vc code a g :: []) H := h
  have start : ∃ n, DpInv code.length n (textP p).length a g := by
    by_cases e : a = code.length
    · exact ⟨_, .inr ⟨e, 0, RunOK.start (by omega), rfl⟩⟩
    · exact ⟨_, .inl ⟨by omega, by omega, rfl⟩⟩
  obtain ⟨n0, start⟩ := start
  refine W.loop_nat (fun n st H => ∃ t a g, st = (str t, ()) ∧ a ≤ code.length ∧ DpInv code.length n t.length a g ∧ Ab.Loc H0 (.srcH b vc code a g :: []) H) (n0 := n0) ⟨_, a, g, rfl, ha, start, h⟩ ?_
  rintro n st H ⟨t, a, g, rfl, ha, hd, h⟩
  have hs := hd.short hcl
  refine Wi.call (fnH60 (i := 0) (n := 3) h rfl ⟨by decide, by decide⟩ fun H x h hx hxe => Wi.eqlC (fun e => Wi.tru ?_) fun _ => Wi.fls (hQ _ t h.le hs))
  have hz : a = code.length → lcgY (lcg g) % 3 = 0 := fun e2 => by
    have := hxe e2
    omega
  refine Wi.call (fn80 (i := 0) h rfl (Nat.min_le_right _ _) (by omega) (fun h0 H t' ht h => ?_) fun h0 H t' ht h => ?_)
  · rw [min_step ha, show lcgN 1 (lcg g) = lcgN 2 g by rw [lcgN_succ, lcgN_zero, lcgN_succ, lcgN_succ, lcgN_zero]] at h
    obtain ⟨n', hn', hd'⟩ := hd.next (k := 2) (t' := t'.length) hcl hz (.inr ⟨rfl, ht, h0⟩)
    exact ⟨n', hn', t', _, _, rfl, Nat.min_le_right _ _, hd', h⟩
  · rw [min_step ha, show lcgN 3 (lcg g) = lcgN 4 g by simp only [lcgN_succ, lcgN_zero]] at h
    obtain ⟨n', hn', hd'⟩ := hd.next (k := 4) (t' := t'.length) hcl hz (.inl ⟨rfl, ht⟩)
    exact ⟨n', hn', t', _, _, rfl, Nat.min_le_right _ _, hd', h⟩

end
end Go.Proofs.YtgdiebnokgnniaaGreatDoor
