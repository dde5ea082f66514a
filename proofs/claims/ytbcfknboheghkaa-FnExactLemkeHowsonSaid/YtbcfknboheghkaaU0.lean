/- Lists of fractions in lowest terms by one denominator: the contract of allReduced. No condition. -/
import Derived.Test.YtbcfknboheghkaaF1
namespace Go.Proofs.Ytbcfknboheghkaa
open Go.Ab

/- loop.example/g01343/impl.allReduced -/
def f47.l1 (Q : Post) (v1 : Value) (list_0 : Value) (den_1 : Value) (I1 : St [6, 13] → Heap → Prop) (out_6 : Value) (x_13 : Value) (H : Heap) : Prop :=
  W.bin .lss x_13 v1 H fun v2 H =>
  W.cond v2 H
  (fun H => W.indexAddr 1 list_0 x_13 H fun v3 H =>
   W.get v3 H fun v4 H =>
   W.call Try.prog (.func (.func 61) #[] #[]) #[v4, den_1] H fun v5 H =>
   W.extract 0 v5 H fun v6 H =>
   W.extract 1 v5 H fun v7 H =>
   W.new [(.int .i64 0), (.int .i64 0)] 66 H fun v8 H =>
   W.putN 2 v8 v6 H fun _ H =>
   W.bin .neq v7 (.int .i64 0) H fun v9 H =>
   W.cond v9 H
   (fun H => Q (.tuple #[(.slice none 0 0), v7]) H)
   (fun H => W.getN 2 v8 H fun v10 H =>
    W.lit 1 [(.int .i64 0), (.int .i64 0)] 66 [(0, 2, v10)] H fun v11 H =>
    W.append 2 66 out_6 v11 H fun v12 H =>
    W.bin .add x_13 (.int .i64 1) H fun v13 H =>
    I1 (v12, v13, ()) H))
  (fun H => Q (.tuple #[out_6, (.int .i64 0)]) H)
def f47.w (Q : Post) (list_0 : Value) (den_1 : Value) (H : Heap) : Prop :=
  W.len list_0 H fun v1 H =>
  W.loop (S := St [6, 13]) (fun I1 s H => f47.l1 Q v1 list_0 den_1 I1 s.1 s.2.1 H) ((.slice none 0 0), (.int .i64 0), ()) H
theorem f47.enter {Q : Post} {list_0 : Value} {den_1 : Value} {H : Heap} (h : f47.w Q list_0 den_1 H) : Runs Try.prog 47 #[list_0, den_1] H Q :=
  fn_enter (ann := [(3, [6, 13])]) (by kernel_rfl) Try.func47 rfl (by kernel_rfl) h (by kernel_rfl)


theorem fracT_i64 (n d : Int) : I64 (fracT n d).1.1 ∧ I64 (fracT n d).1.2 := by
  unfold fracT
  split
  · rename_i h
    have := isFr_iff.1 h
    simp only
    constructor <;> (unfold I64; omega)
  · constructor <;> (unfold I64; decide)

theorem fracT_code (n d : Int) : (fracT n d).2 = 0 ∨ (fracT n d).2 = 3 := by
  unfold fracT
  split
  · exact .inl rfl
  · exact .inr rfl

/-- The fractions of numbers by one denominator, if all are within the limits. -/
def frAll (l : List Int) (d : Int) : List Frac × Int := if l.all fun n => decide ((fracT n d).2 = 0) then (l.map fun n => (fracT n d).1, 0) else ([], 3)

theorem frAll_bad {l : List Int} {d : Int} {i : Nat} (hi : i < l.length) (h : (fracT l[i] d).2 ≠ 0) : frAll l d = ([], 3) ∧ (fracT l[i] d).2 = 3 := by
  refine ⟨?_, (fracT_code _ _).resolve_left h⟩
  unfold frAll
  rw [if_neg]
  intro g
  have := List.all_eq_true.1 g _ (List.getElem_mem hi)
  exact h (of_decide_eq_true this)

theorem frAll_ok {l : List Int} {d : Int} (h : ∀ i (hi : i < l.length), (fracT l[i] d).2 = 0) : frAll l d = (l.map fun n => (fracT n d).1, 0) := by
  unfold frAll
  rw [if_pos]
  refine List.all_eq_true.2 fun x hx => ?_
  obtain ⟨i, hi, rfl⟩ := List.mem_iff_getElem.1 hx
  exact decide_eq_true (h i hi)

theorem frAll_len (l : List Int) (d : Int) : (frAll l d).1.length ≤ l.length := by
  unfold frAll
  split <;> simp

theorem fnG47 {H0 : Heap} {Q : Post} {v : Value} {l : List Int} {d : Int} (hr : Has RS H0 [v] l) (hB : ∀ n ∈ l, B64 n) (hd : B64 d) (h0 : d ≠ 0) (hl : l.length ≤ 1048576)
    (hQ : ∀ H' u, FreshG RFrac 66 H0 u (frAll l d).1 H' → Q (.tuple #[u, .int .i64 (frAll l d).2]) H') : Runs Try.prog 47 #[v, .int .i64 d] H0 Q := by
  refine f47.enter (Wl.lenH hr ?_)
  have h := ((Loc.start H0).lent hr).nilG RFrac 66
  refine W.for_rule l.length (fun i s H => ∃ u, s = (u, .int .i64 (i : Nat), ()) ∧ Ab.Loc H0 [.grow RFrac 66 u ((l.take i).map fun n => (fracT n d).1), .lent RS [v] l] H ∧ ∀ j (hj : j < l.length), j < i → (fracT l[j] d).2 = 0) ⟨_, rfl, h, fun j _ hj => by omega⟩ ?_
  rintro i s H J hi ⟨u, rfl, h, hok⟩ hJ
  refine Wi.lssC (fun hlt => Wi.tru ?_) fun hge => Wi.fls ?_
  · have hix : i < l.length := by omega
    refine Wl.atInt h hix fun _ => Wi.call (fn61 (hB _ (List.getElem_mem hix)) hd h0 fun H l1 => ?_)
    have h := h.to l1
    simp only [g11, g12]
    refine Wl.new h fun H b h => Wl.putA (vs := frC _) h rfl rfl rfl fun H h => Wi.neqC (fun hne => Wi.tru ?_) fun he => Wi.fls (Wl.getA h rfl ?_)
    · obtain ⟨e1, e2⟩ := frAll_bad hix hne
      have := hQ H (.slice none 0 0) (by rw [e1]; exact (h.nilG RFrac 66).retGG (i := 0) rfl)
      rw [e1] at this
      rw [e2]
      exact this
    · refine Wl.pushP (r := RFrac) (x := (fracT l[i] d).1) rfl rfl rfl (frac_rel (fracT_i64 _ _)) h.tl (by simp; omega) fun H u' h => Wi.add (by unfold I64; omega) (hJ _ _ hix ⟨u', rfl, ?_, fun j hj hji => ?_⟩)
      · rw [List.take_succ_eq_append_getElem hix, List.map_append]
        exact h
      · by_cases e : j = i
        · subst e; exact he
        · exact hok j hj (by omega)
  · have : i = l.length := by omega
    subst this
    rw [List.take_length] at h
    have e := frAll_ok fun j hj => hok j hj hj
    have := hQ H u (by rw [e]; exact h.retGG (i := 0) rfl)
    rw [e] at this
    exact this

theorem fn47 {H0 : Heap} {Q : Post} {v : Value} {l : List Int} {d : Int} (hr : Has RS H0 [v] l) (hB : ∀ n ∈ l, B64 n) (hd : B64 d) (h0 : d ≠ 0) (hl : l.length ≤ 1048576)
    (hQ : ∀ H' u, Fresh RFS H0 [u] (frAll l d).1 H' → Q (.tuple #[u, .int .i64 (frAll l d).2]) H') : Runs Try.prog 47 #[v, .int .i64 d] H0 Q :=
  fnG47 hr hB hd h0 hl fun _ _ f => hQ _ _ f.fresh

end Go.Proofs.Ytbcfknboheghkaa
