/- The statement FnProblemsCardSaid: the law FnProblems returns true, whatever bytes it is given, where the library's listed variables hold what the program's text lays. No other condition. -/
import Derived.Test.YtgdiebnokgnniaaGreatDoorRows
import Derived.Test.YtgdiebnokgnniaaGreatDoorCards
import Derived.Test.YtgdiebnokgnniaaGreatDoorTie
import Derived.Test.YtgdiebnokgnniaaGreatDoorZabG6
import Derived.Test.YtgdiebnokgnniaaGreatDoorLFnProblems
import Derived.Test.YtgdiebnokgnniaaGreatDoorReadsY
import Derived.WalkKit
import Derived.ProofKit
import Derived.OpenShut
import Derived.ShutString
import Derived.ChangeOld
import Derived.Below
import Derived.SizedLaws
import Derived.Carry
import Derived.LaidMore
import Derived.Lay
import Derived.SevenTiedAt
import Derived.Stop.Joined
import Derived.Deep.DeepHandedRow
import Derived.Shelf.Vars
import Derived.Lib.LaidU8
open Go Go.Ab
namespace Go.Proofs.YtgdiebnokgnniaaGreatDoor.fnProblems
open Go.ChangeShapes Go.WideShapes Go.ChangeAt Go.RowKit
open Go.ChangeMaps (open_string shut_string)
theorem own : ownKnob Tryz.prog.godebug = none := by kernel_rfl
theorem laidOut : laidOutB Tryz.prog = true := by kernel_rfl

/-! ### What the library's variables hold -/

theorem blk_of_var {P : Program} {W : World} {n : String} {g : Nat} {cs : Array Value} (hg : P.globalNamed n = some g) (h : W.var? P n = some cs) : ∃ ty, (heapOf W).blk g = some ⟨cs.toList.map (san W), ty, 1, true⟩ := by
  unfold World.var? at h
  rw [hg] at h
  simp only [Option.bind_some] at h
  split at h
  · rename_i c t fr hb
    cases h
    exact ⟨t, by simp only [heapOf, hb]⟩
  · cases h

theorem err_of {W : World} {n : String} {g : Nat} {nm : String} {d : DataW Unit} (hg : Tryz.prog.globalNamed n = some g) (ht : (Tryz.prog.globals[g]?).map (·.type) = some 145) (h : Lib.VarReads Tryz.prog W n (.iface nm d)) :
    ∃ t u ty e, (heapOf W).blk g = some ⟨[.iface t u], ty, e, true⟩ := by
  obtain ⟨g', t', cs, fuel, p, hg', ht', hv, hd⟩ := h
  obtain rfl := Option.some.inj (hg.symm.trans hg')
  obtain rfl := Option.some.inj (ht.symm.trans ht')
  obtain ⟨ms, hms⟩ : ∃ ms, Tryz.prog.underlying 145 = some (.interface ms) := ⟨_, Tryz.underlying145⟩
  obtain ⟨_, u, v, hcs, _, _⟩ := iface_of_trod hms hd
  obtain ⟨ty, hb⟩ := blk_of_var hg hv
  rw [hcs] at hb
  exact ⟨u, junk, ty, 1, hb⟩

set_option maxRecDepth 100000 in
theorem lib_ok {W : World} (hL : laidMetH Tryz.prog Rows.fnProblemsRow.laid W) (hsh : W.ShapedOpen Tryz.prog) : LibOK (heapOf W) := by
  rw [MakeChecks.laidMetH_plain _ _ _ (by kernel_rfl)] at hL
  refine ⟨by simp only [heapOf]; omega, ?_, ?_, ?_, ?_⟩
  · have h0 : ((begin Tryz.prog (fun _ _ => 0) default).world.heap[0]?).bind Obj.row? = some (#[.int .i64 0], 3) := by kernel_rfl
    have hg : 0 < Tryz.prog.globals.size := of_decide_eq_true (by kernel_rfl)
    obtain ⟨m, hm⟩ := cell_of_shapedOpen_int (g := 0) (t := 3) (k := .i64) hsh hg h0 rfl (by kernel_rfl) (by kernel_rfl) Tryz.underlying3
    obtain ⟨cs, hh, hs, _⟩ := hsh.1 0 _ _ hg h0
    have hs : cs.size = 1 := hs
    have hc : cs = #[.int .i64 m] := by
      have : W.cell? ⟨0, 0, none⟩ = cs[0]? := by simp [World.cell?, hh]
      rw [this] at hm
      apply Array.ext (by simpa using hs)
      intro i h1 h2
      have : i = 0 := by omega
      subst this
      rw [Array.getElem?_eq_getElem h1] at hm
      exact Option.some.inj hm
    subst hc
    exact ⟨m, 3, 1, by simp only [heapOf, hh]; rfl⟩
  · obtain ⟨g', t', cs, fuel, p, hg', ht', hv, hd⟩ := Lib.laidMet.reads hL (n := "internal/strconv.uint64pow10") (.tail _ (.tail _ (.head _)))
    have hg : Tryz.prog.globalNamed "internal/strconv.uint64pow10" = some 1 := by kernel_rfl
    obtain rfl := Option.some.inj (hg.symm.trans hg')
    obtain rfl := Option.some.inj ((show (Tryz.prog.globals[1]?).map (·.type) = some 185 by kernel_rfl).symm.trans ht')
    have e : (Rows.laid_internal_strconv_uint64pow10 : DataW Unit) = Lib.tabData .u64 Lib.pow10Tab := by kernel_rfl
    rw [e] at hd
    have hcs := Lib.cells_of_tab Tryz.underlying185 Tryz.underlying39 (by kernel_rfl) (by kernel_rfl) hd
    obtain ⟨ty, hb⟩ := blk_of_var hg hv
    rw [hcs, List.map_map] at hb
    exact ⟨ty, 1, hb⟩
  · exact err_of (by kernel_rfl) (by kernel_rfl) (Lib.laidMet.reads hL (n := "strconv.ErrSyntax") (.tail _ (.tail _ (.tail _ (.tail _ (.tail _ (.head _)))))))
  · exact err_of (by kernel_rfl) (by kernel_rfl) (Lib.laidMet.reads hL (n := "strconv.ErrRange") (.tail _ (.tail _ (.tail _ (.tail _ (.head _))))))

set_option maxRecDepth 100000 in
theorem witness (os : Os) (H : Type) (enc : TypeId × Value → H) : ∃ (w : World) (tape : Tape) (i : Input), w.os = os ∧ (w.forCall tape i).Shaped Tryz.prog ∧ i.vars = [] ∧ Input.okWide Tryz.prog (w.forCall tape i) .any w.heap.size 3 i ∧
      ((Rows.fnProblemsSpec.pre enc Tryz.prog Tryz.f3 Rows.fnProblemsRow.domain false (w.forCall tape i).memory i.args ∧ laidMetH Tryz.prog Rows.fnProblemsRow.laid (w.forCall tape i).memory) ∧ sizedMet enc Tryz.prog Tryz.f3 (OpenSpec.ofChange Rows.fnProblemsSpec) false (w.forCall tape i).memory i.args) ∧
      ({} : Assume).holds Tryz.prog (lone (Frame.enter Tryz.prog 3 i.args .normal) [] (w.forCall tape i)) :=
  ChangeSpec.witness_shaped (enc := enc) (C := Tryz.checked) (os := os) (X := fun w _ => laidMetH Tryz.prog Rows.fnProblemsRow.laid w) false (World.laidAll Tryz.prog os Rows.fnProblemsRow.laid) #[.slice none 0 0] 8 (World.laidAll_os _ _ _)
      (World.shaped_of_ZipB (by kernel_rfl) (by kernel_rfl)) (by kernel_rfl) (by kernel_rfl) (by kernel_rfl)
      (by rw [MakeChecks.laidMetH_plain _ _ _ (by kernel_rfl)]; exact laidMet_laidAll _ (by kernel_rfl) (by kernel_rfl))

set_option maxRecDepth 100000 in
theorem lifted (os : Os) (started : os.Started) (H : Type) (enc : TypeId × Value → H) :
    ReturnsInHanded {} Tryz.checked os 3 .any ((OpenSpec.ofChange Rows.fnProblemsSpec).preRow enc Tryz.prog Tryz.f3 Rows.fnProblemsRow.domain false Rows.fnProblemsRow.laid) (Rows.fnProblemsSpec.post enc Tryz.prog Tryz.f3 false true false false) := by
  refine returnsInHanded_of_row (C := Tryz.checked) (s := OpenSpec.ofChange Rows.fnProblemsSpec) (F := fun _ _ _ => 0) own started (by kernel_rfl) Tryz.func3 (witness os H enc) ?_
  intro W base args ds gs before hval0 hW _ _ _ hL hsh _
  have hlib := lib_ok hL hsh
  have hval : ∀ (j : Nat) t v, Tryz.f3.params[j]? = some t → args[j]? = some v → Value.okWide Tryz.prog W .any base t v := hval0
  have hW' := hW
  obtain ⟨p, q, hA0, hV, rfl, hfz, hnd⟩ := hW
  have hA : DataW.TrodAll enc Tryz.prog W 0 (fun _ => true) true Tryz.f3.params.toList args.toList ds p := hA0
  rw [Tryz.params3] at hA hval
  obtain ⟨v0, vs0, d0, ds0, p0, q0, hargs, rfl, rfl, h0, r0⟩ := trodAll_cons hA
  obtain ⟨rfl, rfl, rfl⟩ := trodAll_nil r0
  obtain rfl : args = #[v0] := by cases args; simp_all
  obtain ⟨rfl, rfl⟩ := trodVars_none hV
  obtain ⟨bs0, a0, hr0, vr0⟩ := arg_one (okWide_slice Tryz.underlying22 (hval 0 22 v0 rfl rfl)) readsY h0
  have lt0 : ∀ x ∈ p0, x.block < W.heap.size := by obtain ⟨m, hm⟩ := h0; exact DataW.trod_lt m _ _ _ hm
  clear hA0 hval0
  refine ((law3 hr0 hlib).law (VRs.one vr0)).mono fun e W' ⟨he, bel⟩ => ?_
  subst he
  exact ⟨_, rfl, _, _, _, [], _, [], hW', trodAll_mk1 (shut_bool Tryz.underlying4 _), (trodAll_cons_mk (Below.trod laidOut (by kernel_rfl) (of_decide_eq_true (by kernel_rfl)) h0 bel lt0) trodAll_mk0), rfl, bel.frame _, fun h => by cases h⟩

theorem over : Rows.fnProblemsRow.holds Tryz.pinned (OpenSpec.ofChange Rows.fnProblemsSpec) :=
  OpenClaim.holds_of_wide 3 Tryz.f3 rfl rfl rfl rfl rfl rfl rfl ⟨rfl, rfl, rfl, rfl, rfl⟩ rfl rfl rfl rfl rfl (by kernel_rfl) Tryz.func3 (by kernel_rfl)
    (of_decide_eq_true (by kernel_rfl)) (by unfold Func.isWrapper; first | (rw [if_pos (by decide +kernel)]; kernel_rfl) | (rw [if_neg (by decide +kernel)]; exact ⟨rfl, rfl⟩))
    (fun os started H enc _ => by rw [OpenClaim.pre_eq_preRow]; exact lifted os started H enc)
end Go.Proofs.YtgdiebnokgnniaaGreatDoor.fnProblems
namespace Go.Proofs.YtgdiebnokgnniaaGreatDoor
/-- The statement: the tied card. -/
theorem fnProblems_holds : Rows.FnProblemsCardSaid :=
  Claim7.holds_tied_plain_at .later [] [.data, .data, .data, .data, .sentinel, .sentinel, .pinned] true (true, "3e8d2e05560fc55200e16d22ccde3f977f872278d2ef81e968c61e3c6ad62099") true
    fnProblems.over (fun _ h => by cases h) (by kernel_rfl) (fun _ h => by cases h) fnProblems_row_tie rfl ⟨rfl, rfl⟩ (by kernel_rfl) rfl
    (fun f fn hf hfn => by
      obtain rfl : f = 3 := Option.some.inj ((show Tryz.prog.funcNamed "loop.example/g01343/laws.FnProblems" = some 3 by kernel_rfl).symm.trans hf) |>.symm
      obtain rfl : fn = Tryz.f3 := (Option.some.inj (Tryz.func3.symm.trans hfn)).symm
      exact ⟨by kernel_rfl, fun j t ht => by
        rw [Tryz.params3] at ht
        have hm : t ∈ [22] := by simpa using Array.mem_of_getElem? ht
        have hall : ([22].all fun u => !Tryz.prog.wantsStandIn u) = true := by kernel_rfl
        exact (show Tryz.prog.wantsStandIn t = false by simpa using List.all_eq_true.1 hall t hm)⟩)
    (by kernel_rfl)
#print axioms fnProblems_holds
end Go.Proofs.YtgdiebnokgnniaaGreatDoor
