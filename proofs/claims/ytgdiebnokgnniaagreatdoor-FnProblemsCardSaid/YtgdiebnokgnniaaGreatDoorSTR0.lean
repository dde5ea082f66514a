/- Go's library on the abstract heap: strconv.FormatInt, ParseInt, strings.Join, Split, Cut. Condition: the library's variables hold what they were laid with. -/
import Derived.Test.YtgdiebnokgnniaaGreatDoorSHF
import Derived.Test.YtgdiebnokgnniaaGreatDoorZabTxt
import Derived.Test.YtgdiebnokgnniaaGreatDoorZabSpl
import Derived.Lib.AppendIntMem
namespace Go.Proofs.YtgdiebnokgnniaaGreatDoor
open Go.Ab

/-- The library's variables. -/
structure LibOK (H : Heap) : Prop where
  big : 4096 ≤ H.next
  maxlen : ∃ m ty e, H.blk 0 = some ⟨[.int .i64 m], ty, e, true⟩
  pow : ∃ ty e, H.blk 1 = some ⟨Lib.pow10Tab.map (Value.int .u64), ty, e, true⟩
  syn : ∃ t u ty e, H.blk 4 = some ⟨[.iface t u], ty, e, true⟩
  rng : ∃ t u ty e, H.blk 5 = some ⟨[.iface t u], ty, e, true⟩

theorem LibOK.le {H H' : Heap} (h : LibOK H) (l : H.Le H') : LibOK H' where
  big := Nat.le_trans h.big l.next
  maxlen := let ⟨m, ty, e, g⟩ := h.maxlen; ⟨m, ty, e, (l.blk 0 (by have := h.big; omega)).trans g⟩
  pow := let ⟨ty, e, g⟩ := h.pow; ⟨ty, e, (l.blk 1 (by have := h.big; omega)).trans g⟩
  syn := let ⟨t, u, ty, e, g⟩ := h.syn; ⟨t, u, ty, e, (l.blk 4 (by have := h.big; omega)).trans g⟩
  rng := let ⟨t, u, ty, e, g⟩ := h.rng; ⟨t, u, ty, e, (l.blk 5 (by have := h.big; omega)).trans g⟩

theorem pow_tab {φ : Phi} {H : Heap} {w : World} (s : Sim φ H w) (h : LibOK H) : Lib.TabIs Tryz.prog w "internal/strconv.uint64pow10" .u64 Lib.pow10Tab := by
  obtain ⟨ty, e, g⟩ := h.pow
  obtain ⟨fz, hw⟩ := s.globPlain g (by decide) (by rfl)
  have e1 : Tryz.prog.globalNamed "internal/strconv.uint64pow10" = some 1 := Tryz.laysM173.m17
  unfold Lib.TabIs World.var?
  rw [e1]
  simp only [Option.bind_some]
  rw [hw]

section
variable {H : Heap} {Q : Post}

theorem fn127 {n : Int} (hl : LibOK H) (hn : I64 n) (hQ : Q (str (Lib.itoa n)) H) : Runs Tryz.prog 127 #[.int .i64 n, .int .i64 10] H Q := by
  refine ⟨⟨_, Tryz.func127, by kernel_rfl, by kernel_rfl⟩, _, H, fun φ w cargs s ra => ?_, hQ⟩
  rw [ra.plain rfl]
  unfold I64 at hn
  refine (Tryz.strconv_FormatInt_10 n (by omega) (by omega) w (pow_tab s hl)).mono fun e w' he => ?_
  obtain ⟨rfl, k, os, rfl⟩ := he
  exact ⟨φ, _, rfl, .same s (Grows.of_below (Lib.below_grow _ w (Nat.le_refl _) k os)), .string _⟩

theorem fn132 {l : List UInt8} (hl : LibOK H) (hlen : l.length ≤ 281474976710656) (hok : ∀ v, Lib.parseIntB 64 l = .ok v → Q (.tuple #[.int .i64 v, .nilIface]) H)
    (hno : (∀ v, Lib.parseIntB 64 l ≠ .ok v) → ∀ n t, Q (.tuple #[.int .i64 n, .iface t junk]) H) : Runs Tryz.prog 132 #[str l, .int .i64 10, .int .i64 64] H Q := by
  refine ⟨⟨_, Tryz.func132, by kernel_rfl, by kernel_rfl⟩, ?_⟩
  have hsz : (ByteArray.mk l.toArray).size ≤ 281474976710656 := by rw [str_size]; exact hlen
  have hbase : ∀ name g (k : Blk) t u (φ : Phi) (w : World), Tryz.prog.globalNamed name = some g → g < 4096 → H.blk g = some k → k.cells = [.iface t u] → Sim φ H w → ∃ u', w.var? Tryz.prog name = some #[.iface t u'] := by
    intro name g k t u φ w hn hg hk hc s
    obtain ⟨fz, u', hw⟩ := s.globIface hk hg hc
    exact ⟨u', by unfold World.var?; rw [hn]; simp only [Option.bind_some]; rw [hw]⟩
  cases hp : Lib.parseIntB 64 l with
  | ok v =>
    refine ⟨.tuple #[.int .i64 v, .nilIface], H, fun φ w cargs s ra => ?_, hok v hp⟩
    rw [ra.plain rfl]
    refine (Tryz.strconv_ParseInt_10_at64_ok ⟨l.toArray⟩ (by omega) v hp w).mono fun e w' he => ?_
    obtain ⟨rfl, hw⟩ := he
    refine ⟨φ, _, rfl, .same s (Grows.of_below ?_), .tuple _ _ rfl fun i h1 h2 => ?_⟩
    · rcases hw with rfl | ⟨t, rfl⟩
      · exact RowKit.Below.refl _ _
      · exact Lib.bytesWorld_below _ _ _
    · have hi : i = 0 ∨ i = 1 := by simp at h1; omega
      rcases hi with rfl | rfl
      · exact .int _ _
      · exact .nilIface
  | _ =>
    have hne : ∀ v, Lib.parseIntB 64 l ≠ .ok v := fun v h => by rw [hp] at h; cases h
    first
      | (obtain ⟨t, u, ty, e, g⟩ := hl.syn
         refine ⟨.tuple #[.int .i64 0, .iface 181 junk], H, fun φ w cargs s ra => ?_, hno hne _ _⟩
         rw [ra.plain rfl]
         obtain ⟨u', hv⟩ := hbase "strconv.ErrSyntax" 4 _ t u φ w (by kernel_rfl) (by decide) g rfl s
         refine (Any.strconv_ParseInt_10_at64_syntax_var Tryz.laysC174 ⟨l.toArray⟩ hsz hp t u' w hv).mono fun e w' he => ?_
         obtain ⟨N, rfl, _, _, hb⟩ := he
         refine ⟨φ, _, rfl, .same s (Grows.of_below hb), .tuple _ _ rfl fun i h1 h2 => ?_⟩
         have hi : i = 0 ∨ i = 1 := by simp at h1; omega
         rcases hi with rfl | rfl
         · exact .int _ _
         · exact .iface _ _ _ (.junk _))
      | (obtain ⟨t, u, ty, e, g⟩ := hl.rng
         refine ⟨.tuple #[.int .i64 (Lib.intSat 64 l), .iface 181 junk], H, fun φ w cargs s ra => ?_, hno hne _ _⟩
         rw [ra.plain rfl]
         obtain ⟨u', hv⟩ := hbase "strconv.ErrRange" 5 _ t u φ w (by kernel_rfl) (by decide) g rfl s
         refine (Any.strconv_ParseInt_10_at64_range_var Tryz.laysC174 ⟨l.toArray⟩ hsz hp t u' w hv).mono fun e w' he => ?_
         obtain ⟨N, rfl, _, _, hb⟩ := he
         refine ⟨φ, _, rfl, .same s (Grows.of_below hb), .tuple _ _ rfl fun i h1 h2 => ?_⟩
         have hi : i = 0 ∨ i = 1 := by simp at h1; omega
         rcases hi with rfl | rfl
         · exact .int _ _
         · exact .iface _ _ _ (.junk _))

theorem fn105 {u : Value} {xs : List (List UInt8)} {sep : List UInt8} (hx : Has RStrs H [u] xs) (hlen : (Lib.join xs sep).length ≤ 140737488355328) (hn : xs.length ≤ 140737488355328) (hQ : Q (str (Lib.join xs sep)) H) : Runs Tryz.prog 105 #[u, str sep] H Q := by
  refine ⟨⟨_, Tryz.func105, by kernel_rfl, by kernel_rfl⟩, _, H, fun φ w cargs s ra => ?_, hQ⟩
  obtain ⟨r1, r2⟩ := ra
  have ru := r2 0 (by simp) (by have : cargs.size = 2 := r1.symm; omega)
  have rs := r2 1 (by simp) (by have : cargs.size = 2 := r1.symm; omega)
  obtain ⟨a, c, hu, hc, hsm, hcell⟩ := has_strs hx s ru
  have hs := plainV_eq rfl rs
  have e : cargs = #[.slice a xs.length c, str sep] := by
    have h2 : cargs.size = 2 := r1.symm
    apply Array.ext (by simpa using h2)
    intro i g1 g2
    have hi : i = 0 ∨ i = 1 := by omega
    rcases hi with rfl | rfl
    · exact hu
    · exact hs
  rw [e]
  have fin : ∀ w', RowKit.Below w.heap.size w w' → ∃ φ' cv, Ending.returned (str (Lib.join xs sep)) = .returned cv ∧ Ext φ H w φ' H w' ∧ VR φ' H (str (Lib.join xs sep)) cv := fun w' hb => ⟨φ, _, rfl, .same s (Grows.of_below hb), .string _⟩
  by_cases h0 : xs = []
  · subst h0
    refine (Any.strings_Join_none Tryz.lays156 Tryz.Builder_Extra_156 a c ⟨sep.toArray⟩ w).mono fun e w' he => ?_
    obtain ⟨rfl, rfl⟩ := he
    exact fin _ (RowKit.Below.refl _ _)
  · obtain ⟨b, o, rfl, hb, hcells⟩ := hcell h0
    have hmap : (xs.map fun x => (⟨x.toArray⟩ : ByteArray)).map (·.data.toList) = xs := by
      rw [List.map_map]
      conv => rhs; rw [← List.map_id xs]
      apply List.map_congr_left
      intro x _
      simp
    have := Any.strings_Join Tryz.lays156 Tryz.Builder_Extra_156 b o c (xs.map fun x => (⟨x.toArray⟩ : ByteArray)) ⟨sep.toArray⟩ w (fun j x hj => by
      rw [List.getElem?_map] at hj
      obtain ⟨y, hy, rfl⟩ := Option.map_eq_some_iff.1 hj
      exact hcells j y hy) hb (by simpa using hn) (by simpa using hc) (by rw [hmap]; simpa using hlen)
    rw [hmap, List.length_map] at this
    refine this.mono fun e w' he => ?_
    obtain ⟨rfl, hb⟩ := he
    exact fin _ hb

theorem fn54 {l : List UInt8} {c : UInt8} (hl : LibOK H) (hlen : l.length < 4294967281) (hQ : ∀ H' u, Fresh RStrs H [u] (splitL c l) H' → Q u H') : Runs Tryz.prog 54 #[str l, str [c]] H Q := by
  have hsp : (Lib.splitB ⟨[c].toArray⟩ 0 (Lib.countB ⟨l.toArray⟩ ⟨[c].toArray⟩) ⟨l.toArray⟩).map Value.string = (splitL c l).map str := by
    have e := Lib.splitB_data ⟨[c].toArray⟩ 0 (Lib.countB ⟨l.toArray⟩ ⟨[c].toArray⟩) ⟨l.toArray⟩
    have e2 : Lib.splitK [c] 0 (Lib.count l [c]) l = splitL c l := splitK_eq c l
    simp only [Lib.countB, List.toList_toArray] at e ⊢
    rw [e2] at e
    rw [← e, List.map_map]
    apply List.map_congr_left
    intro x _
    simp [Function.comp, str, Lib.mk_data]
  have hcnt : Lib.countB ⟨l.toArray⟩ ⟨[c].toArray⟩ + 1 = (splitL c l).length := by
    have e := Lib.splitB_all ⟨[c].toArray⟩ (Nat.le_refl 1) 0 _ ⟨l.toArray⟩ rfl
    have e2 := congrArg List.length hsp
    simp only [List.length_map] at e2
    rw [← e2, e]
  have hle : (splitL c l).length ≤ l.length + 1 := splitL_cnt
  have h1 : 1 ≤ (splitL c l).length := List.length_pos_iff.2 (splitL_ne c l)
  refine ⟨⟨_, Tryz.func54, by kernel_rfl, by kernel_rfl⟩, .slice (some (adr H.next 0)) (splitL c l).length (2 * (splitL c l).length), H.alloc ((splitL c l).map str) 9 1, fun φ w cargs s ra => ?_, ?_⟩
  · rw [ra.plain rfl]
    obtain ⟨m, ty, e, g⟩ := hl.maxlen
    obtain ⟨fz, hw⟩ := s.globPlain g (by decide) rfl
    have hm : w.cell? ⟨0, 0, none⟩ = some (.int .i64 m) := by simp only [World.cell?, hw]; rfl
    refine (Tryz.strings_Split ⟨l.toArray⟩ ⟨[c].toArray⟩ m w (by rw [str_size]; exact hlen) hm (Nat.le_refl 1)).mono fun e w' he => ?_
    obtain ⟨rfl, rfl⟩ := he
    rw [hsp, hcnt]
    obtain ⟨φ', h1, h2⟩ := Ext.newBlk s ((splitL c l).map str) 9 1 (by simp [plainV])
    refine ⟨φ', _, rfl, h2, .slice ⟨rfl, rfl, rfl, by simp [Heap.alloc], fun k hk => ⟨_, h1⟩⟩ ?_ fun k _ ho => by omega⟩
    unfold CR
    rw [if_pos (by omega)]
    omega
  · have hfm : (List.range (splitL c l).length).flatMap (fun _ => ([] : List Nat)) = [] := List.flatMap_eq_nil_iff.2 fun _ _ => rfl
    refine hQ _ _ ⟨⟨by simp [Heap.alloc], fun b hb => by simp only [Heap.alloc]; rw [if_neg (by omega)]⟩, ?_⟩
    refine ⟨H.next :: (List.range (splitL c l).length).flatMap (fun _ => []), .inr ⟨H.next, 0, _, ⟨(splitL c l).map str, 9, 1, false⟩, fun _ => [], rfl, rfl, ⟨by simp [Heap.alloc], by simp [Heap.alloc], by omega, by omega, by simp [Rd.str], fun i hi => ⟨rfl, ?_⟩⟩⟩, ?_, ?_, ?_⟩
    · show cellsAt 1 ((splitL c l).map str) 0 i = _
      unfold cellsAt
      rw [Nat.zero_add, Nat.mul_one, List.drop_eq_getElem_cons (by simpa using hi)]
      simp
    · rw [hfm]; simp
    · intro x hx
      rw [hfm] at hx
      simp at hx
      omega
    · intro x hx kx hk
      rw [hfm] at hx
      simp at hx
      subst hx
      simp [Heap.alloc] at hk
      subst hk
      rfl

theorem fn53 {l : List UInt8} {c : UInt8} (hl : LibOK H) (hlen : l.length < 4294967281) (hQ : Q (.tuple #[str (Lib.cut l [c]).1, str (Lib.cut l [c]).2.1, .bool (Lib.cut l [c]).2.2]) H) : Runs Tryz.prog 53 #[str l, str [c]] H Q := by
  refine ⟨⟨_, Tryz.func53, by kernel_rfl, by kernel_rfl⟩, _, H, fun φ w cargs s ra => ?_, hQ⟩
  rw [ra.plain rfl]
  obtain ⟨m, ty, e, g⟩ := hl.maxlen
  obtain ⟨fz, hw⟩ := s.globPlain g (by decide) rfl
  have hm : w.cell? ⟨0, 0, none⟩ = some (.int .i64 m) := by simp only [World.cell?, hw]; rfl
  refine (Tryz.strings_Cut ⟨l.toArray⟩ ⟨[c].toArray⟩ m w (by rw [str_size]; exact hlen) hm).mono fun e w' he => ?_
  obtain ⟨rfl, n, rfl⟩ := he
  refine ⟨φ, _, rfl, .same s ⟨Nat.le_refl _, fun _ _ => rfl, rfl, rfl, rfl⟩, .tuple _ _ rfl fun i h1 h2 => ?_⟩
  have hi : i = 0 ∨ i = 1 ∨ i = 2 := by simp at h1; omega
  rcases hi with rfl | rfl | rfl
  · exact .string _
  · exact .string _
  · exact .bool _

end
end Go.Proofs.YtgdiebnokgnniaaGreatDoor
