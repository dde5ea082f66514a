/- Texts of problems in the program: decimal, joined, rowsText, ProblemText, readWhole, readWholes. Condition: the library's variables hold what they were laid with. -/
import Derived.Test.YtgdiebnokgnniaaGreatDoorSTR0
import Derived.Test.YtgdiebnokgnniaaGreatDoorGAB
import Derived.Test.YtgdiebnokgnniaaGreatDoorZabPar
import Derived.Lib.ItoaLen
namespace Go.Proofs.YtgdiebnokgnniaaGreatDoor
open Go.Ab

/- loop.example/g01343/impl.decimal -/
def f106.w (Q : Post) (n_0 : Value) (H : Heap) : Prop :=
  W.call Tryz.prog (.func (.func 127) #[] #[]) #[n_0, (.int .i64 10)] H fun v1 H =>
  Q v1 H
theorem f106.enter {Q : Post} {n_0 : Value} {H : Heap} (h : f106.w Q n_0 H) : Runs Tryz.prog 106 #[n_0] H Q :=
  fn_enter (ann := []) (by kernel_rfl) Tryz.func106 rfl (by kernel_rfl) h (by kernel_rfl)

/- loop.example/g01343/impl.joined -/
def f52.l1 (Q : Post) (v3 : Value) (list_0 : Value) (v2 : Value) (sign_1 : Value) (I1 : St [13] → Heap → Prop) (x_13 : Value) (H : Heap) : Prop :=
  W.bin .lss x_13 v3 H fun v4 H =>
  W.cond v4 H
  (fun H => W.indexAddr 1 list_0 x_13 H fun v5 H =>
   W.get v5 H fun v6 H =>
   W.call Tryz.prog (.func (.func 106) #[] #[]) #[v6] H fun v7 H =>
   W.indexAddr 1 v2 x_13 H fun v8 H =>
   W.put v8 v7 H fun _ H =>
   W.bin .add x_13 (.int .i64 1) H fun v9 H =>
   I1 (v9, ()) H)
  (fun H => W.call Tryz.prog (.func (.func 105) #[] #[]) #[v2, sign_1] H fun v10 H =>
   Q v10 H)
def f52.w (Q : Post) (list_0 : Value) (sign_1 : Value) (H : Heap) : Prop :=
  W.len list_0 H fun v1 H =>
  W.make [(.string { data := #[] })] 9 v1 v1 H fun v2 H =>
  W.len list_0 H fun v3 H =>
  W.loop (S := St [13]) (fun I1 s H => f52.l1 Q v3 list_0 v2 sign_1 I1 s.1 H) ((.int .i64 0), ()) H
theorem f52.enter {Q : Post} {list_0 : Value} {sign_1 : Value} {H : Heap} (h : f52.w Q list_0 sign_1 H) : Runs Tryz.prog 52 #[list_0, sign_1] H Q :=
  fn_enter (ann := [(3, [13])]) (by kernel_rfl) Tryz.func52 rfl (by kernel_rfl) h (by kernel_rfl)

/- loop.example/g01343/impl.rowsText -/
def f51.l1 (Q : Post) (v3 : Value) (rows_0 : Value) (v2 : Value) (I1 : St [11] → Heap → Prop) (x_11 : Value) (H : Heap) : Prop :=
  W.bin .lss x_11 v3 H fun v4 H =>
  W.cond v4 H
  (fun H => W.indexAddr 1 rows_0 x_11 H fun v5 H =>
   W.get v5 H fun v6 H =>
   W.call Tryz.prog (.func (.func 52) #[] #[]) #[v6, (.string { data := #[44] })] H fun v7 H =>
   W.indexAddr 1 v2 x_11 H fun v8 H =>
   W.put v8 v7 H fun _ H =>
   W.bin .add x_11 (.int .i64 1) H fun v9 H =>
   I1 (v9, ()) H)
  (fun H => W.call Tryz.prog (.func (.func 105) #[] #[]) #[v2, (.string { data := #[59] })] H fun v10 H =>
   Q v10 H)
def f51.w (Q : Post) (rows_0 : Value) (H : Heap) : Prop :=
  W.len rows_0 H fun v1 H =>
  W.make [(.string { data := #[] })] 9 v1 v1 H fun v2 H =>
  W.len rows_0 H fun v3 H =>
  W.loop (S := St [11]) (fun I1 s H => f51.l1 Q v3 rows_0 v2 I1 s.1 H) ((.int .i64 0), ()) H
theorem f51.enter {Q : Post} {rows_0 : Value} {H : Heap} (h : f51.w Q rows_0 H) : Runs Tryz.prog 51 #[rows_0] H Q :=
  fn_enter (ann := [(3, [11])]) (by kernel_rfl) Tryz.func51 rfl (by kernel_rfl) h (by kernel_rfl)

/- loop.example/g01343/impl.readWhole -/
def f109.w (Q : Post) (s_0 : Value) (H : Heap) : Prop :=
  W.call Tryz.prog (.func (.func 132) #[] #[]) #[s_0, (.int .i64 10), (.int .i64 64)] H fun v1 H =>
  W.extract 0 v1 H fun v2 H =>
  W.extract 1 v1 H fun v3 H =>
  W.eqNilI true .eql v3 .nilIface H fun v4 H =>
  W.guarded v4 true (fun H k => k v2 H) H fun v5 H =>
  W.guarded v4 true (fun H k => W.call Tryz.prog (.func (.func 106) #[] #[]) #[v5] H k) H fun v6 H =>
  W.guarded v4 true (fun H k => k s_0 H) H fun v7 H =>
  W.guarded v4 true (fun H k => W.bin .eql v6 v7 H k) H fun v8 H =>
  W.pick v4 v8 (.bool false) H fun v9 H =>
  Q (.tuple #[v2, v9]) H
theorem f109.enter {Q : Post} {s_0 : Value} {H : Heap} (h : f109.w Q s_0 H) : Runs Tryz.prog 109 #[s_0] H Q :=
  fn_enter (ann := []) (by kernel_rfl) Tryz.func109 rfl (by kernel_rfl) h (by kernel_rfl)

/- loop.example/g01343/impl.readWholes -/
def f55.l1 (Q : Post) (v2 : Value) (v1 : Value) (I1 : St [4, 12] → Heap → Prop) (out_4 : Value) (x_12 : Value) (H : Heap) : Prop :=
  W.bin .lss x_12 v2 H fun v3 H =>
  W.cond v3 H
  (fun H => W.indexAddr 1 v1 x_12 H fun v4 H =>
   W.get v4 H fun v5 H =>
   W.call Tryz.prog (.func (.func 109) #[] #[]) #[v5] H fun v6 H =>
   W.extract 0 v6 H fun v7 H =>
   W.extract 1 v6 H fun v8 H =>
   W.un .not v8 H fun v9 H =>
   W.cond v9 H
   (fun H => Q (.tuple #[(.slice none 0 0), (.bool false)]) H)
   (fun H => W.lit 1 [(.int .i64 0)] 2 [(0, 1, v7)] H fun v10 H =>
    W.append 1 2 out_4 v10 H fun v11 H =>
    W.bin .add x_12 (.int .i64 1) H fun v12 H =>
    I1 (v11, v12, ()) H))
  (fun H => Q (.tuple #[out_4, (.bool true)]) H)
def f55.w (Q : Post) (s_0 : Value) (H : Heap) : Prop :=
  W.call Tryz.prog (.func (.func 54) #[] #[]) #[s_0, (.string { data := #[44] })] H fun v1 H =>
  W.len v1 H fun v2 H =>
  W.loop (S := St [4, 12]) (fun I1 s H => f55.l1 Q v2 v1 I1 s.1 s.2.1 H) ((.slice none 0 0), (.int .i64 0), ()) H
theorem f55.enter {Q : Post} {s_0 : Value} {H : Heap} (h : f55.w Q s_0 H) : Runs Tryz.prog 55 #[s_0] H Q :=
  fn_enter (ann := [(3, [4, 12])]) (by kernel_rfl) Tryz.func55 rfl (by kernel_rfl) h (by kernel_rfl)


theorem join_len {c : UInt8} {B : Nat} : ∀ {ps : List (List UInt8)}, (∀ p ∈ ps, p.length ≤ B) → (Lib.join ps [c]).length ≤ ps.length * (B + 1)
  | [], _ => by simp [Lib.join_nil]
  | p :: r, h => by
    rw [Lib.join_cons, List.length_append, Lib.joinTail]
    have h1 := h p (by simp)
    have h2 : ((r.map ([c] ++ ·)).flatten).length ≤ r.length * (B + 1) := by
      rw [List.length_flatten, List.map_map]
      have : ∀ l : List (List UInt8), (∀ q ∈ l, q.length ≤ B) → (l.map (List.length ∘ fun x => [c] ++ x)).sum ≤ l.length * (B + 1) := by
        intro l
        induction l with
        | nil => intro _; simp
        | cons q l ih =>
          intro hl
          have a1 := hl q (by simp)
          have a2 := ih fun x hx => hl x (by simp [hx])
          simp only [List.map_cons, List.sum_cons, List.length_cons, Function.comp, List.length_append, List.length_nil]
          rw [Nat.add_mul]
          omega
      exact this r fun q hq => h q (by simp [hq])
    rw [List.length_cons, Nat.add_mul]
    omega

theorem joinI_len {c : UInt8} {l : List Int} (h : ∀ x ∈ l, I64 x) : (joinI c l).length ≤ l.length * 22 := by
  have := join_len (c := c) (B := 21) (ps := l.map Lib.itoa) fun p hp => by
    obtain ⟨v, hv, rfl⟩ := List.mem_map.1 hp
    have := h v hv
    unfold I64 at this
    exact Lib.itoa_length_le v (by omega) (by omega)
  simpa [joinI] using this

theorem range_map {α β : Type} [Inhabited α] {l : List α} {f : α → β} : ((List.range l.length).map fun x => f (l.getD x default)) = l.map f := by
  apply List.ext_getElem
  · simp
  · intro i h1 h2
    simp only [List.length_map, List.length_range] at h1
    simp [h1]

theorem has_i64s {H : Heap} {v : Value} {m : List (List Int)} (h : Has RSS H [v] m) : ∀ r ∈ m, ∀ x ∈ r, I64 x := by
  intro r hr
  obtain ⟨bs, h⟩ := h
  rcases h with ⟨rfl, _, _⟩ | ⟨b, o, e, kb, fs, _, _, sl⟩
  · cases hr
  · obtain ⟨i, hi, rfl⟩ := List.mem_iff_getElem.1 hr
    have he := sl.each i hi
    obtain ⟨u, hu⟩ := List.length_eq_one_iff.1 (RS.len he)
    rw [hu] at he
    exact Has.i64 ⟨_, he⟩

section
variable {H0 : Heap} {Q : Post}

theorem fn106 {n : Int} (hl : LibOK H0) (hn : I64 n) (hQ : Q (str (Lib.itoa n)) H0) : Runs Tryz.prog 106 #[.int .i64 n] H0 Q := by
  refine f106.enter ?_
  unfold f106.w
  exact Wi.call (fn127 hl hn hQ)

theorem fn52 {v : Value} {l : List Int} {c : UInt8} (hl : LibOK H0) (hr : Has RS H0 [v] l) (hlen : l.length ≤ 4294967296) (hQ : ∀ H', H0.Le H' → Q (str (joinI c l)) H') : Runs Tryz.prog 52 #[v, str [c]] H0 Q := by
  refine f52.enter ?_
  unfold f52.w
  have h := (Loc.start H0).lent hr
  refine Wl.len h (Wl.make (r := Rd.str) (z := []) (fun _ => ⟨rfl, rfl⟩) h (by omega) (by decide) fun H v2 h => Wl.len h ?_)
  have hI : ∀ x ∈ l, I64 x := hr.i64
  have h := h.asData (i := 0) rfl
  refine W.for_rule l.length (fun x st H => st = (.int .i64 (x : Nat), ()) ∧ Ab.Loc H0 (.data RStrs [v2] (((List.range x).map fun y => Lib.itoa (l.getD y default)) ++ List.replicate (l.length - x) []) :: .lent RS [v] l :: []) H) ⟨rfl, by simpa using h⟩ ?_
  rintro x st H J hx ⟨rfl, h⟩ hJ
  refine Wi.lssC (fun hlt => Wi.tru ?_) fun hge => Wi.fls ?_
  · have hxl : x < l.length := by omega
    refine Wl.atInt (xs := l) h hxl fun hi => Wi.call (fn106 (hl.le h.le) hi ?_)
    have e : Lib.itoa l[x] = (fun y => Lib.itoa (l.getD y default)) x := by simp [hxl]
    rw [e]
    refine Wl.setStr (j := 0) h (by simp; omega) fun H h => Wi.add (by unfold I64; have := hr.small; omega) (hJ _ _ hxl ⟨rfl, ?_⟩)
    rw [set_step (f := fun y => Lib.itoa (l.getD y default)) hxl] at h
    exact h
  · have hxl : x = l.length := by omega
    subst hxl
    rw [Nat.sub_self, List.replicate_zero, List.append_nil, range_map] at h
    have hb := joinI_len (c := c) hI
    exact Wi.call (fn105 (h.rd (cs := [v2])) (by unfold joinI at hb; omega) (by simp; omega) (hQ _ h.le))

theorem fn51 {v : Value} {m : List (List Int)} (hl : LibOK H0) (hr : Has RSS H0 [v] m) (hlen : m.length ≤ 1048576) (hlr : ∀ r ∈ m, r.length ≤ 1048576) (hQ : ∀ H', H0.Le H' → Q (str (rowsT m)) H') : Runs Tryz.prog 51 #[v] H0 Q := by
  refine f51.enter ?_
  unfold f51.w
  have h := (Loc.start H0).lent hr
  refine Wl.len h (Wl.make (r := Rd.str) (z := []) (fun _ => ⟨rfl, rfl⟩) h (by omega) (by decide) fun H v2 h => Wl.len h ?_)
  have h := h.asData (i := 0) rfl
  refine W.for_rule m.length (fun x st H => st = (.int .i64 (x : Nat), ()) ∧ Ab.Loc H0 (.data RStrs [v2] (((List.range x).map fun y => joinI 44 (m.getD y default)) ++ List.replicate (m.length - x) []) :: .lent RSS [v] m :: []) H) ⟨rfl, by simpa using h⟩ ?_
  rintro x st H J hx ⟨rfl, h⟩ hJ
  refine Wi.lssC (fun hlt => Wi.tru ?_) fun hge => Wi.fls ?_
  · have hxl : x < m.length := by omega
    refine Wl.at1H (r := RS) rfl (h.rd (cs := [v]) (x := m)) hxl fun u hu => Wi.call (fn52 (c := 44) (hl.le h.le) hu (by have := hlr _ (List.getElem_mem hxl); omega) fun H l => ?_)
    have h := h.to l
    have e : joinI 44 m[x] = (fun y => joinI 44 (m.getD y default)) x := by simp [hxl]
    rw [e]
    refine Wl.setStr (j := 0) h (by simp; omega) fun H h => Wi.add (by unfold I64; have := hr.small; omega) (hJ _ _ hxl ⟨rfl, ?_⟩)
    rw [set_step (f := fun y => joinI 44 (m.getD y default)) hxl] at h
    exact h
  · have hxl : x = m.length := by omega
    subst hxl
    rw [Nat.sub_self, List.replicate_zero, List.append_nil, range_map] at h
    have hb := join_len (c := 59) (B := 23068672) (ps := m.map (joinI 44)) fun p hp => by
      obtain ⟨r, hrm, rfl⟩ := List.mem_map.1 hp
      have h1 := joinI_len (c := 44) (l := r) fun x hx => has_i64s hr r hrm x hx
      have h2 := hlr r hrm
      omega
    rw [List.length_map] at hb
    have hb2 : m.length * (23068672 + 1) ≤ 1048576 * (23068672 + 1) := Nat.mul_le_mul_right _ hlen
    exact Wi.call (fn105 (h.rd (cs := [v2])) (by omega) (by simp; omega) (hQ _ h.le))

theorem fn109 {l : List UInt8} (hl : LibOK H0) (hlen : l.length ≤ 281474976710656) (hok : ∀ v, numI l = some v → Q (.tuple #[.int .i64 v, .bool true]) H0) (hno : numI l = none → ∀ n, Q (.tuple #[.int .i64 n, .bool false]) H0) :
    Runs Tryz.prog 109 #[str l] H0 Q := by
  refine f109.enter ?_
  unfold f109.w
  refine Wi.call (fn132 hl hlen (fun v hv => ?_) fun hne n t => ?_)
  · have hb := Lib.parseIntB_bounds hv
    have hI : I64 v := ⟨by have := hb.1; omega, by have := hb.2; omega⟩
    simp only [gw]
    refine Wi.nilI ?_
    simp only [gw]
    refine Wi.call (fn106 hl hI ?_)
    refine Wi.eqlS ?_
    try simp only [gw]
    by_cases e : Lib.itoa v = l
    · rw [decide_eq_true e]
      exact hok v (by unfold numI; rw [hv]; simp [e])
    · rw [decide_eq_false e]
      exact hno (by unfold numI; rw [hv]; simp [e]) v
  · simp only [gw]
    refine Wi.someI ?_
    simp only [gw]
    refine hno ?_ n
    unfold numI
    split
    · rename_i v hv; exact absurd hv (hne v)
    · rfl

theorem fn55 {l : List UInt8} (hl : LibOK H0) (hlen : l.length ≤ 4294967000) (hok : ∀ xs, listO numI l = some xs → ∀ H' u, Fresh RS H0 [u] xs H' → Q (.tuple #[u, .bool true]) H') (hno : listO numI l = none → ∀ H', H0.Le H' → Q (.tuple #[.slice none 0 0, .bool false]) H') :
    Runs Tryz.prog 55 #[str l] H0 Q := by
  refine f55.enter ?_
  unfold f55.w
  refine Wi.call (fn54 hl (by omega) fun H v1 f => ?_)
  have h := (Loc.start H0).add f
  have hc : (splitL 44 l).length ≤ l.length + 1 := splitL_cnt
  refine Wl.len h ?_
  have h := h.nilG Rd.int 2
  refine W.for_rule (splitL 44 l).length (fun x st H => ∃ u xs, st = (u, .int .i64 (x : Nat), ()) ∧ mapO numI ((splitL 44 l).take x) = some xs ∧ Ab.Loc H0 (.grow Rd.int 2 u xs :: .data RStrs [v1] (splitL 44 l) :: []) H) ⟨_, [], rfl, by simp [mapO], h⟩ ?_
  rintro x st H J hx ⟨u, xs, rfl, hm, h⟩ hJ
  refine Wi.lssC (fun hlt => Wi.tru ?_) fun hge => Wi.fls ?_
  · have hxl : x < (splitL 44 l).length := by omega
    have ht : (splitL 44 l).take (x + 1) = (splitL 44 l).take x ++ [(splitL 44 l)[x]] := by rw [List.take_succ_eq_append_getElem hxl]
    have hxs : xs.length = x := by rw [mapO_length hm, List.length_take]; omega
    refine Wl.atStrH (h.rd (cs := [v1]) (x := splitL 44 l)) hxl (Wi.call (fn109 (hl.le h.le) (by have := splitL_len (List.getElem_mem hxl); omega) (fun v hv => ?_) fun hv n => ?_))
    · simp only [gw]
      have hb := (numI_iff.1 hv).2
      refine Wl.pushP (r := Rd.int) (x := v) (i := 0) rfl rfl rfl (fun _ => ⟨rfl, rfl, by unfold I64; omega⟩) h (by omega) fun H u' h => Wi.add (by unfold I64; omega) (hJ _ _ hxl ⟨u', xs ++ [v], rfl, ?_, h⟩)
      rw [ht, mapO_snoc hm, hv]
      rfl
    · simp only [gw]
      exact hno (mapO_no (List.getElem_mem hxl) hv) _ h.le
  · have hxl : x = (splitL 44 l).length := by omega
    rw [hxl, List.take_length] at hm
    exact hok xs hm _ _ ((h.asData (i := 0) rfl).ret (i := 0) rfl)

end
end Go.Proofs.YtgdiebnokgnniaaGreatDoor
