/- The law FnGames answers true on any abstract heap that holds its code. No condition. -/
import Derived.Test.YtbcfknboheghkaaGreatDM0
import Derived.Test.YtbcfknboheghkaaGreatCS0
import Derived.Test.YtbcfknboheghkaaGreatPY0
import Derived.Test.YtbcfknboheghkaaGreatEB1
import Derived.Test.YtbcfknboheghkaaGreatGWW
import Derived.Test.YtbcfknboheghkaaGreatReadsY
namespace Go.Proofs.YtbcfknboheghkaaGreat
open Go.Ab

/- loop.example/g01343/laws.FnGames -/
def f4.j1 (Q : Post) (code_0 : Value) (H : Heap) : Prop :=
  W.call Tryz.prog (.func (.func 33) #[] #[]) #[code_0] H fun v126 H =>
  W.extract 0 v126 H fun v127 H =>
  W.extract 1 v126 H fun v128 H =>
  W.extract 2 v126 H fun v129 H =>
  W.new [(.slice none 0 0), (.slice none 0 0)] 26 H fun v130 H =>
  W.putN 2 v130 v127 H fun _ H =>
  W.getN 2 v130 H fun v131 H =>
  W.call Tryz.prog (.func (.func 10) #[] #[]) #[v131, v128, v129] H fun v132 H =>
  W.extract 0 v132 H fun v133 H =>
  W.extract 1 v132 H fun v134 H =>
  W.getN 2 v130 H fun v135 H =>
  W.call Tryz.prog (.func (.func 34) #[] #[]) #[v135, v128, v129] H fun v136 H =>
  W.extract 0 v136 H fun v137 H =>
  W.extract 1 v136 H fun v138 H =>
  W.getN 2 v130 H fun v139 H =>
  W.call Tryz.prog (.func (.func 35) #[] #[]) #[v139, v128, v129] H fun v140 H =>
  W.extract 0 v140 H fun v141 H =>
  W.extract 1 v140 H fun v142 H =>
  W.extract 2 v140 H fun v143 H =>
  W.new [(.int .i64 0), (.int .i64 0)] 39 H fun v144 H =>
  W.new [(.int .i64 0), (.int .i64 0)] 39 H fun v145 H =>
  W.putN 2 v144 v141 H fun _ H =>
  W.putN 2 v145 v142 H fun _ H =>
  W.getN 2 v130 H fun v146 H =>
  W.call Tryz.prog (.func (.func 36) #[] #[]) #[v146, v128, v129] H fun v147 H =>
  W.extract 0 v147 H fun v148 H =>
  W.extract 1 v147 H fun v149 H =>
  W.extract 2 v147 H fun v150 H =>
  W.new [(.int .i64 0), (.int .i64 0)] 39 H fun v151 H =>
  W.new [(.int .i64 0), (.int .i64 0)] 39 H fun v152 H =>
  W.putN 2 v151 v148 H fun _ H =>
  W.putN 2 v152 v149 H fun _ H =>
  W.call Tryz.prog (.func (.func 37) #[] #[]) #[code_0] H fun v153 H =>
  W.extract 0 v153 H fun v154 H =>
  W.extract 1 v153 H fun v155 H =>
  W.extract 2 v153 H fun v156 H =>
  W.new [(.slice none 0 0), (.slice none 0 0)] 26 H fun v157 H =>
  W.putN 2 v157 v154 H fun _ H =>
  W.getN 2 v157 H fun v158 H =>
  W.call Tryz.prog (.func (.func 32) #[] #[]) #[v158, v155, v156] H fun v159 H =>
  W.extract 0 v159 H fun v160 H =>
  W.extract 1 v159 H fun v161 H =>
  W.getN 2 v157 H fun v162 H =>
  W.call Tryz.prog (.func (.func 38) #[] #[]) #[v162, v155, v156] H fun v163 H =>
  W.extract 0 v163 H fun v164 H =>
  W.extract 1 v163 H fun v165 H =>
  W.call Tryz.prog (.func (.func 39) #[] #[]) #[code_0] H fun v166 H =>
  W.new [(.slice none 0 0), (.slice none 0 0)] 26 H fun v167 H =>
  W.putN 2 v167 v166 H fun _ H =>
  W.getN 2 v167 H fun v168 H =>
  W.call Tryz.prog (.func (.func 30) #[] #[]) #[v168] H fun v169 H =>
  W.extract 0 v169 H fun v170 H =>
  W.extract 1 v169 H fun v171 H =>
  W.new [(.slice none 0 0), (.slice none 0 0)] 26 H fun v172 H =>
  W.putN 2 v172 v170 H fun _ H =>
  W.getN 2 v167 H fun v173 H =>
  W.call Tryz.prog (.func (.func 40) #[] #[]) #[v173] H fun v174 H =>
  W.extract 0 v174 H fun v175 H =>
  W.extract 1 v174 H fun v176 H =>
  W.new [(.slice none 0 0), (.slice none 0 0)] 26 H fun v177 H =>
  W.putN 2 v177 v175 H fun _ H =>
  W.getN 2 v167 H fun v178 H =>
  W.call Tryz.prog (.func (.func 41) #[] #[]) #[v178] H fun v179 H =>
  W.extract 0 v179 H fun v180 H =>
  W.extract 1 v179 H fun v181 H =>
  W.getN 2 v167 H fun v182 H =>
  W.call Tryz.prog (.func (.func 42) #[] #[]) #[v182] H fun v183 H =>
  W.extract 0 v183 H fun v184 H =>
  W.extract 1 v183 H fun v185 H =>
  W.bin .eql v134 v138 H fun v186 H =>
  W.guarded v186 true (fun H k => k v133 H) H fun v187 H =>
  W.guarded v186 true (fun H k => k v137 H) H fun v188 H =>
  W.guarded v186 true (fun H k => W.eqBool .eql v187 v188 H k) H fun v189 H =>
  W.pick v186 v189 (.bool false) H fun v190 H =>
  W.guarded v190 true (fun H k => k v143 H) H fun v191 H =>
  W.guarded v190 true (fun H k => k v150 H) H fun v192 H =>
  W.guarded v190 true (fun H k => W.bin .eql v191 v192 H k) H fun v193 H =>
  W.pick v190 v193 (.bool false) H fun v194 H =>
  W.guarded v194 true (fun H k => W.getN 2 v144 H k) H fun v195 H =>
  W.guarded v194 true (fun H k => W.getN 2 v151 H k) H fun v196 H =>
  W.guarded v194 true (fun H k => W.eqPair .eql v195 v196 H k) H fun v197 H =>
  W.pick v194 v197 (.bool false) H fun v198 H =>
  W.guarded v198 true (fun H k => W.getN 2 v145 H k) H fun v199 H =>
  W.guarded v198 true (fun H k => W.getN 2 v152 H k) H fun v200 H =>
  W.guarded v198 true (fun H k => W.eqPair .eql v199 v200 H k) H fun v201 H =>
  W.pick v198 v201 (.bool false) H fun v202 H =>
  W.guarded v202 true (fun H k => k v161 H) H fun v203 H =>
  W.guarded v202 true (fun H k => k v165 H) H fun v204 H =>
  W.guarded v202 true (fun H k => W.bin .eql v203 v204 H k) H fun v205 H =>
  W.pick v202 v205 (.bool false) H fun v206 H =>
  W.guarded v206 true (fun H k => k v160 H) H fun v207 H =>
  W.guarded v206 true (fun H k => k v164 H) H fun v208 H =>
  W.guarded v206 true (fun H k => W.call Tryz.prog (.func (.func 20) #[] #[]) #[v207, v208] H k) H fun v209 H =>
  W.pick v206 v209 (.bool false) H fun v210 H =>
  W.guarded v210 true (fun H k => k v171 H) H fun v211 H =>
  W.guarded v210 true (fun H k => k v176 H) H fun v212 H =>
  W.guarded v210 true (fun H k => W.bin .eql v211 v212 H k) H fun v213 H =>
  W.pick v210 v213 (.bool false) H fun v214 H =>
  W.guarded v214 true (fun H k => W.getN 2 v172 H k) H fun v215 H =>
  W.guarded v214 true (fun H k => W.getN 2 v177 H k) H fun v216 H =>
  W.guarded v214 true (fun H k => W.call Tryz.prog (.func (.func 43) #[] #[]) #[v215, v216] H k) H fun v217 H =>
  W.pick v214 v217 (.bool false) H fun v218 H =>
  W.guarded v218 true (fun H k => k v181 H) H fun v219 H =>
  W.guarded v218 true (fun H k => k v185 H) H fun v220 H =>
  W.guarded v218 true (fun H k => W.bin .eql v219 v220 H k) H fun v221 H =>
  W.pick v218 v221 (.bool false) H fun v222 H =>
  W.guarded v222 true (fun H k => k v180 H) H fun v223 H =>
  W.guarded v222 true (fun H k => k v184 H) H fun v224 H =>
  W.guarded v222 true (fun H k => W.eqBool .eql v223 v224 H k) H fun v225 H =>
  W.pick v222 v225 (.bool false) H fun v226 H =>
  Q v226 H
def f4.l2 (Q : Post) (v14 : Value) (v3 : Value) (v68 : Value) (code_0 : Value) (I2 : St [18] → Heap → Prop) (i_18 : Value) (H : Heap) : Prop :=
  W.len v14 H fun v70 H =>
  W.bin .lss i_18 v70 H fun v71 H =>
  W.cond v71 H
  (fun H => W.fieldAddr 0 v3 H fun v72 H =>
   W.get v72 H fun v73 H =>
   W.len v73 H fun v74 H =>
   W.indexAddr 1 v14 i_18 H fun v75 H =>
   W.get v75 H fun v76 H =>
   W.indexAddr 1 v76 (.int .i64 0) H fun v77 H =>
   W.get v77 H fun v78 H =>
   W.callQ Tryz.prog (.func (.func 31) #[] #[]) #[v74, v78] H fun v79 H =>
   W.fieldAddr 0 v3 H fun v80 H =>
   W.get v80 H fun v81 H =>
   W.indexAddr 1 v81 (.int .i64 0) H fun v82 H =>
   W.get v82 H fun v83 H =>
   W.len v83 H fun v84 H =>
   W.indexAddr 1 v14 i_18 H fun v85 H =>
   W.get v85 H fun v86 H =>
   W.indexAddr 1 v86 (.int .i64 1) H fun v87 H =>
   W.get v87 H fun v88 H =>
   W.callQ Tryz.prog (.func (.func 31) #[] #[]) #[v84, v88] H fun v89 H =>
   W.getN 2 v3 H fun v90 H =>
   W.call Tryz.prog (.func (.func 10) #[] #[]) #[v90, v79, v89] H fun v91 H =>
   W.extract 0 v91 H fun v92 H =>
   W.extract 1 v91 H fun v93 H =>
   W.getN 2 v68 H fun v94 H =>
   W.call Tryz.prog (.func (.func 10) #[] #[]) #[v94, v89, v79] H fun v95 H =>
   W.extract 0 v95 H fun v96 H =>
   W.extract 1 v95 H fun v97 H =>
   W.getN 2 v3 H fun v98 H =>
   W.call Tryz.prog (.func (.func 32) #[] #[]) #[v98, (.int .i64 0), v89] H fun v99 H =>
   W.extract 0 v99 H fun v100 H =>
   W.extract 1 v99 H fun v101 H =>
   W.bin .neq v93 (.int .i64 0) H fun v102 H =>
   W.guarded v102 false (fun H k => k v97 H) H fun v103 H =>
   W.guarded v102 false (fun H k => W.bin .neq v103 (.int .i64 0) H k) H fun v104 H =>
   W.pick v102 (.bool true) v104 H fun v105 H =>
   W.guarded v105 false (fun H k => k v101 H) H fun v106 H =>
   W.guarded v105 false (fun H k => W.bin .neq v106 (.int .i64 0) H k) H fun v107 H =>
   W.pick v105 (.bool true) v107 H fun v108 H =>
   W.guarded v108 false (fun H k => k v92 H) H fun v109 H =>
   W.guarded v108 false (fun H k => W.un .not v109 H k) H fun v110 H =>
   W.pick v108 (.bool true) v110 H fun v111 H =>
   W.guarded v111 false (fun H k => k v96 H) H fun v112 H =>
   W.guarded v111 false (fun H k => W.un .not v112 H k) H fun v113 H =>
   W.pick v111 (.bool true) v113 H fun v114 H =>
   W.guarded v114 false (fun H k => k v100 H) H fun v115 H =>
   W.guarded v114 false (fun H k => k v14 H) H fun v116 H =>
   W.guarded v114 false (fun H k => k i_18 H) H fun v117 H =>
   W.guarded v114 false (fun H k => W.indexAddr 1 v116 v117 H k) H fun v118 H =>
   W.guarded v114 false (fun H k => W.get v118 H k) H fun v119 H =>
   W.guarded v114 false (fun H k => W.indexAddr 1 v119 (.int .i64 0) H k) H fun v120 H =>
   W.guarded v114 false (fun H k => W.get v120 H k) H fun v121 H =>
   W.guarded v114 false (fun H k => W.call Tryz.prog (.func (.func 12) #[] #[]) #[v115, v121] H k) H fun v122 H =>
   W.guarded v114 false (fun H k => W.un .not v122 H k) H fun v123 H =>
   W.pick v114 (.bool true) v123 H fun v124 H =>
   W.cond v124 H
   (fun H => Q (.bool false) H)
   (fun H => W.bin .add i_18 (.int .i64 1) H fun v125 H =>
    I2 (v125, ()) H))
  (fun H => f4.j1 Q code_0 H)
def f4.l1 (Q : Post) (v6 : Value) (v3 : Value) (v44 : Value) (v14 : Value) (code_0 : Value) (I1 : St [13] → Heap → Prop) (i_13 : Value) (H : Heap) : Prop :=
  W.len v6 H fun v47 H =>
  W.bin .lss i_13 v47 H fun v48 H =>
  W.cond v48 H
  (fun H => W.getN 2 v3 H fun v49 H =>
   W.indexAddr 1 v6 i_13 H fun v50 H =>
   W.get v50 H fun v51 H =>
   W.slice 2 v51 none (some v44) H fun v52 H =>
   W.indexAddr 1 v6 i_13 H fun v53 H =>
   W.get v53 H fun v54 H =>
   W.slice 2 v54 (some v44) none H fun v55 H =>
   W.callQ Tryz.prog (.func (.func 10) #[] #[]) #[v49, v52, v55] H fun v56 H =>
   W.extract 0 v56 H fun v57 H =>
   W.extract 1 v56 H fun v58 H =>
   W.bin .eql v58 (.int .i64 0) H fun v59 H =>
   W.guarded v59 true (fun H k => k v57 H) H fun v60 H =>
   W.guarded v59 true (fun H k => W.un .not v60 H k) H fun v61 H =>
   W.pick v59 v61 (.bool false) H fun v62 H =>
   W.cond v62 H
   (fun H => Q (.bool false) H)
   (fun H => W.bin .add i_13 (.int .i64 1) H fun v63 H =>
    I1 (v63, ()) H))
  (fun H => W.getN 2 v3 H fun v64 H =>
   W.call Tryz.prog (.func (.func 30) #[] #[]) #[v64] H fun v65 H =>
   W.extract 0 v65 H fun v66 H =>
   W.extract 1 v65 H fun v67 H =>
   W.new [(.slice none 0 0), (.slice none 0 0)] 26 H fun v68 H =>
   W.putN 2 v68 v66 H fun _ H =>
   W.bin .neq v67 (.int .i64 0) H fun v69 H =>
   W.cond v69 H
   (fun H => Q (.bool false) H)
   (fun H => W.loop (S := St [18]) (fun I2 s H => f4.l2 Q v14 v3 v68 code_0 I2 s.1 H) ((.int .i64 0), ()) H))
def f4.w (Q : Post) (code_0 : Value) (H : Heap) : Prop :=
  W.call Tryz.prog (.func (.func 5) #[] #[]) #[code_0] H fun v1 H =>
  W.cond v1 H
  (fun H => Q (.bool true) H)
  (fun H => W.call Tryz.prog (.func (.func 21) #[] #[]) #[code_0] H fun v2 H =>
   W.new [(.slice none 0 0), (.slice none 0 0)] 26 H fun v3 H =>
   W.putN 2 v3 v2 H fun _ H =>
   W.getN 2 v3 H fun v4 H =>
   W.call Tryz.prog (.func (.func 22) #[] #[]) #[v4] H fun v5 H =>
   W.extract 0 v5 H fun v6 H =>
   W.extract 1 v5 H fun v7 H =>
   W.getN 2 v3 H fun v8 H =>
   W.call Tryz.prog (.func (.func 23) #[] #[]) #[v8] H fun v9 H =>
   W.extract 0 v9 H fun v10 H =>
   W.extract 1 v9 H fun v11 H =>
   W.getN 2 v3 H fun v12 H =>
   W.call Tryz.prog (.func (.func 24) #[] #[]) #[v12] H fun v13 H =>
   W.extract 0 v13 H fun v14 H =>
   W.extract 1 v13 H fun v15 H =>
   W.getN 2 v3 H fun v16 H =>
   W.call Tryz.prog (.func (.func 25) #[] #[]) #[v16] H fun v17 H =>
   W.extract 0 v17 H fun v18 H =>
   W.extract 1 v17 H fun v19 H =>
   W.bin .neq v7 v11 H fun v20 H =>
   W.guarded v20 false (fun H k => k v6 H) H fun v21 H =>
   W.guarded v20 false (fun H k => k v10 H) H fun v22 H =>
   W.guarded v20 false (fun H k => W.callQ Tryz.prog (.func (.func 26) #[] #[]) #[v21, v22] H k) H fun v23 H =>
   W.guarded v20 false (fun H k => W.un .not v23 H k) H fun v24 H =>
   W.pick v20 (.bool true) v24 H fun v25 H =>
   W.guarded v25 false (fun H k => k v15 H) H fun v26 H =>
   W.guarded v25 false (fun H k => k v19 H) H fun v27 H =>
   W.guarded v25 false (fun H k => W.bin .neq v26 v27 H k) H fun v28 H =>
   W.pick v25 (.bool true) v28 H fun v29 H =>
   W.guarded v29 false (fun H k => k v14 H) H fun v30 H =>
   W.guarded v29 false (fun H k => k v18 H) H fun v31 H =>
   W.guarded v29 false (fun H k => W.callQ Tryz.prog (.func (.func 27) #[] #[]) #[v30, v31] H k) H fun v32 H =>
   W.guarded v29 false (fun H k => W.un .not v32 H k) H fun v33 H =>
   W.pick v29 (.bool true) v33 H fun v34 H =>
   W.guarded v34 false (fun H k => W.getN 2 v3 H k) H fun v35 H =>
   W.guarded v34 false (fun H k => W.callQ Tryz.prog (.func (.func 28) #[] #[]) #[v35] H k) H fun v36 H =>
   W.guarded v34 false (fun H k => W.getN 2 v3 H k) H fun v37 H =>
   W.guarded v34 false (fun H k => W.callQ Tryz.prog (.func (.func 29) #[] #[]) #[v37] H k) H fun v38 H =>
   W.guarded v34 false (fun H k => W.eqBool .neq v36 v38 H k) H fun v39 H =>
   W.pick v34 (.bool true) v39 H fun v40 H =>
   W.cond v40 H
   (fun H => Q (.bool false) H)
   (fun H => W.bin .eql v7 (.int .i64 0) H fun v41 H =>
    W.cond v41 H
    (fun H => W.fieldAddr 0 v3 H fun v42 H =>
     W.get v42 H fun v43 H =>
     W.len v43 H fun v44 H =>
     W.len v6 H fun v45 H =>
     W.bin .lss v45 (.int .i64 1) H fun v46 H =>
     W.cond v46 H
     (fun H => Q (.bool false) H)
     (fun H => W.loop (S := St [13]) (fun I1 s H => f4.l1 Q v6 v3 v44 v14 code_0 I1 s.1 H) ((.int .i64 0), ()) H))
    (fun H => f4.j1 Q code_0 H)))
theorem f4.enter {Q : Post} {code_0 : Value} {H : Heap} (h : f4.w Q code_0 H) : Runs Tryz.prog 4 #[code_0] H Q :=
  fn_enter (ann := [(15, [13]), (24, [18])]) (by kernel_rfl) Tryz.func4 rfl (by kernel_rfl) h (by kernel_rfl)


abbrev qTg : Post := fun v _ => v = .bool true

theorem paRes_i64 (g : Game) (x y : List Frac) : (I64 (paRes g x y).1.1 ∧ I64 (paRes g x y).1.2) ∧ I64 (paRes g x y).2.1.1 ∧ I64 (paRes g x y).2.1.2 := by
  classical
  have z : I64 zFr.1 ∧ I64 zFr.2 := ⟨by show I64 0; unfold I64; decide, by show I64 0; unfold I64; decide⟩
  have f : ∀ n d, I64 (fracT n d).1.1 ∧ I64 (fracT n d).1.2 := fun n d => by
    unfold fracT
    split
    · rename_i h
      obtain ⟨h1, h2, _⟩ := isFr_iff.1 h
      refine ⟨?_, ?_⟩
      · show I64 (frac n d).1
        unfold I64; omega
      · show I64 (frac n d).2
        unfold I64; omega
    · exact z
  unfold paRes
  split
  · split
    · split
      · split
        · exact ⟨f _ _, f _ _⟩
        · exact ⟨z, z⟩
      · exact ⟨z, z⟩
    · exact ⟨z, z⟩
  · exact ⟨z, z⟩

/-- Mixes, payoffs, replies, players exchanged: by both. -/
theorem gm_j1 {H0 : Heap} {v0 : Value} {x0 : List Int} (hc : Has RBytes H0 [v0] x0) : f4.j1 qTg v0 H0 := by
  unfold f4.j1
  -- mixes and payoffs
  refine Wi.call (fn33 hc fun H1 u1 u2 g vx xs vy ys l1 hg hs hx hy lx ly => ?_)
  have hc1 := hc.le l1
  have h := (((Loc.start H1).lent hy).lent hx).lent hg
  have kc := hg.cell
  simp only [gw]
  refine Wl.new h fun H b130 h => Wl.putA (b := b130) (i := 0) h rfl rfl kc fun H h => Wl.getA (b := b130) h rfl (Wi.call (fn10 (h.rd (cs := [u1, u2]) (x := g)) (h.rd (cs := [vx]) (r := RFS) (x := xs)) (h.rd (cs := [vy]) (r := RFS) (x := ys)) hs.w (by omega) (by omega) fun H l => ?_))
  have h := h.to l
  simp only [gw]
  refine Wl.getA (b := b130) h rfl (Wi.call (fn34 (h.rd (cs := [u1, u2]) (x := g)) (h.rd (cs := [vx]) (r := RFS) (x := xs)) (h.rd (cs := [vy]) (r := RFS) (x := ys)) hs.w (by omega) (by omega) fun H l => ?_))
  have h := h.to l
  simp only [gw]
  obtain ⟨⟨q1, q2⟩, q3, q4⟩ := paRes_i64 g xs ys
  refine Wl.getA (b := b130) h rfl (Wi.call (fn35 (h.rd (cs := [u1, u2]) (x := g)) (h.rd (cs := [vx]) (r := RFS) (x := xs)) (h.rd (cs := [vy]) (r := RFS) (x := ys)) hs.w (by omega) (by omega) fun H l => ?_))
  have h := h.to l
  simp only [gw]
  refine Wl.new h fun H b144 h => Wl.new h fun H b145 h => Wl.putA (b := b144) (i := 1) h rfl rfl rfl fun H h => Wl.putA (b := b145) (i := 0) h rfl rfl rfl fun H h => Wl.getA (b := b130) h rfl (Wi.call (fn36 (h.rd (cs := [u1, u2]) (x := g)) (h.rd (cs := [vx]) (r := RFS) (x := xs)) (h.rd (cs := [vy]) (r := RFS) (x := ys)) hs.w (by omega) (by omega) fun H l => ?_))
  have h := h.to l
  simp only [gw]
  refine Wl.new h fun H b151 h => Wl.new h fun H b152 h => Wl.putA (b := b151) (i := 1) h rfl rfl rfl fun H h => Wl.putA (b := b152) (i := 0) h rfl rfl rfl fun H h => ?_
  have h1 : Ab.Loc H1 [.box b152 (frC (paRes g xs ys).2.1), .box b151 (frC (paRes g xs ys).1), .box b145 (frC (paRes g xs ys).2.1), .box b144 (frC (paRes g xs ys).1), .box b130 [u1, u2], .lent RGame [u1, u2] g, .lent RFS [vx] xs, .lent RFS [vy] ys] H := h
  clear h
  -- best replies
  refine Wi.call (fn37 (hc1.le h1.le) fun H2 p1 p2 g2 p vm ms l2 hg2 hs2 hp hm lm => ?_)
  have h1 := h1.to l2
  have h := ((Loc.start H2).lent hm).lent hg2
  have kc := hg2.cell
  simp only [gw]
  refine Wl.new h fun H b157 h => Wl.putA (b := b157) (i := 0) h rfl rfl kc fun H h => Wl.getA (b := b157) h rfl (Wi.call (fn32 (h.rd (cs := [p1, p2]) (x := g2)) hp (h.rd (cs := [vm]) (r := RFS) (x := ms)) hs2.w (by omega) fun H v160 f => ?_))
  have h := h.addG f
  simp only [gw]
  refine Wl.getA (b := b157) h rfl (Wi.call (fn38 (h.rd (cs := [p1, p2]) (x := g2)) hp (h.rd (cs := [vm]) (r := RFS) (x := ms)) hs2.w (by omega) fun H v164 f => ?_))
  have h := h.addG f
  simp only [gw]
  have h2 : Ab.Loc H2 [.grow Rd.int 2 v164 (brRes g2 p ms).1, .grow Rd.int 2 v160 (brRes g2 p ms).1, .box b157 [p1, p2], .lent RGame [p1, p2] g2, .lent RFS [vm] ms] H := h
  clear h
  have h1 := h1.to h2.le
  -- players exchanged
  refine Wi.call (fn39 (hc1.le h1.le) fun H3 w1 w2 g3 l3 hg3 hs3 => ?_)
  have h1 := h1.to l3
  have h2 := h2.to l3
  have h := (Loc.start H3).lent hg3
  have kc := hg3.cell
  refine Wl.new h fun H b167 h => Wl.putA (b := b167) (i := 0) h rfl rfl kc fun H h => Wl.getA (b := b167) h rfl (Wi.call (fn30 (h.rd (cs := [w1, w2]) (x := g3)) hs3.w fun H a1 a2 f => ?_))
  have h := h.add f
  have kc := (h.rd (cs := [a1, a2]) (r := RGame) (x := (xpRes g3).1)).cell
  simp only [gw]
  refine Wl.new h fun H b172 h => Wl.putA (b := b172) (i := 0) h rfl rfl kc fun H h => Wl.getA (b := b167) h rfl (Wi.call (fn40 (h.rd (cs := [w1, w2]) (x := g3)) hs3.w fun H c1 c2 f => ?_))
  have h := h.add f
  have kc := (h.rd (cs := [c1, c2]) (r := RGame) (x := (xpRes g3).1)).cell
  simp only [gw]
  refine Wl.new h fun H b177 h => Wl.putA (b := b177) (i := 0) h rfl rfl kc fun H h => ?_
  have h : Ab.Loc H3 [.box b177 [c1, c2], .data RGame [c1, c2] (xpRes g3).1, .box b172 [a1, a2], .data RGame [a1, a2] (xpRes g3).1, .box b167 [w1, w2], .lent RGame [w1, w2] g3] H := h
  refine Wl.getA (b := b167) h rfl (Wi.call (fn41 (h.rd (cs := [w1, w2]) (x := g3)) hs3.w fun H l => ?_))
  have h := h.to l
  simp only [gw]
  refine Wl.getA (b := b167) h rfl (Wi.call (fn42 (h.rd (cs := [w1, w2]) (x := g3)) hs3.w fun H l => ?_))
  have h := h.to l
  simp only [gw]
  have h1 := h1.to h.le
  have h2 := h2.to h.le
  -- the comparisons
  refine Wi.eqlC (fun _ => ?_) fun q => absurd rfl q
  simp only [gw]
  refine Wi.eqBool ?_
  rw [beq_self_eq_true]
  simp only [gw]
  refine Wi.eqlC (fun _ => ?_) fun q => absurd rfl q
  simp only [gw]
  refine Wl.getA (b := b144) h1 rfl (Wl.getA (b := b151) h1 rfl (Wi.eqPair q1 q2 q1 q2 ?_))
  rw [decide_eq_true rfl, decide_eq_true rfl]
  simp only [gw, Bool.and_self]
  refine Wl.getA (b := b145) h1 rfl (Wl.getA (b := b152) h1 rfl (Wi.eqPair q3 q4 q3 q4 ?_))
  rw [decide_eq_true rfl, decide_eq_true rfl]
  simp only [gw, Bool.and_self]
  refine Wi.eqlC (fun _ => ?_) fun q => absurd rfl q
  simp only [gw]
  refine Wi.call (fn20 (h2.rd (cs := [v160]) (r := RS) (x := (brRes g2 p ms).1)) (h2.rd (cs := [v164]) (r := RS) (x := (brRes g2 p ms).1)) ?_)
  rw [decide_eq_true rfl]
  simp only [gw]
  refine Wi.eqlC (fun _ => ?_) fun q => absurd rfl q
  simp only [gw]
  refine Wl.getA (b := b172) h rfl (Wl.getA (b := b177) h rfl (Wi.call (fn43 (h.rd (cs := [a1, a2]) (x := (xpRes g3).1)) (h.rd (cs := [c1, c2]) (x := (xpRes g3).1)) fun H l => ?_)))
  simp only [gw]
  refine Wi.eqlC (fun _ => ?_) fun q => absurd rfl q
  simp only [gw]
  refine Wi.eqBool ?_
  rw [beq_self_eq_true]

/-- Pure equilibria are equilibria, of the turned game too, and best replies. -/
theorem gm_pure {H0 H : Heap} {v0 v14 : Value} {x0 : List Int} {b3 b68 : Nat} {g : Game} {u1 u2 t1 t2 : Value} (hc : Has RBytes H0 [v0] x0) (hg : IsGm g) (hw : wGame g ≤ 1048576) (hw2 : wGame (xpG g) ≤ 1048576) (h : Ab.Loc H0 [.box b68 [t1, t2], .data RGame [t1, t2] (xpG g), .data RSS [v14] (pureTo g g.1.length), .box b3 [u1, u2], .lent RGame [u1, u2] g, .lent RSS [u1] g.1] H) :
    W.loop (S := St [18]) (fun I2 s H => f4.l2 qTg v14 (pt b3 0) (pt b68 0) v0 I2 s.1 H) ((.int .i64 0), ()) H := by
  have k1 := hg.k1
  have k4 := hg.k4
  have l1 := hg.l1
  have l4 := hg.l4
  have hsm := (h.rd (cs := [v14]) (r := RSS) (x := pureTo g g.1.length)).small
  refine W.for_rule (pureTo g g.1.length).length (fun i st H => st = (.int .i64 (i : Nat), ()) ∧ Ab.Loc H0 [.box b68 [t1, t2], .data RGame [t1, t2] (xpG g), .data RSS [v14] (pureTo g g.1.length), .box b3 [u1, u2], .lent RGame [u1, u2] g, .lent RSS [u1] g.1] H) ⟨rfl, h⟩ ?_
  rintro i st H J hi ⟨rfl, h⟩ hJ
  unfold f4.l2
  refine Wl.lenH (h.rd (cs := [v14]) (r := RSS) (x := pureTo g g.1.length)) (Wi.lssC (fun hlt => Wi.tru ?_) fun hge => Wi.fls (gm_j1 (hc.le h.le)))
  have hip : i < (pureTo g g.1.length).length := by omega
  obtain ⟨a, c, ha, hcl, hpb, er⟩ := pureTo_mem (List.getElem_mem hip)
  have e2 : ((pureTo g g.1.length)[i]).length = 2 := by rw [er]; rfl
  have r0 : ((pureTo g g.1.length)[i])[0]'(by omega) = ((a : Nat) : Int) := by simp [er]
  have r1 : ((pureTo g g.1.length)[i])[1]'(by omega) = ((c : Nat) : Int) := by simp [er]
  refine Wi.fieldAddr0 (Wl.get (b := b3) h rfl (Wl.len (v := u1) (xs := g.1) h ?_))
  refine Wl.at1H rfl (h.rd (cs := [v14]) (r := RSS) (x := pureTo g g.1.length)) hip fun w hw' => Wl.atIntH hw' (i := 0) (by omega) fun _ => ?_
  rw [r0]
  refine Wi.callQ (fn31 (by omega) (by omega) fun H v79 f => ⟨f.le, ?_⟩)
  have h := h.addG f
  refine Wi.fieldAddr0 (Wl.get (b := b3) h rfl (Wl.at1H rfl (h.rd (cs := [u1]) (r := RSS) (x := g.1)) (i := 0) (by omega) fun w hw' => Wl.lenH hw' ?_))
  rw [← lw_at (by omega)]
  refine Wl.at1H rfl (h.rd (cs := [v14]) (r := RSS) (x := pureTo g g.1.length)) hip fun w hw' => Wl.atIntH hw' (i := 1) (by omega) fun _ => ?_
  rw [r1]
  refine Wi.callQ (fn31 (by omega) (by omega) fun H v89 f => ⟨f.le, ?_⟩)
  have h := h.addG f
  have h : Ab.Loc H0 [.grow RFrac 39 v89 (unitF (lw g) c), .grow RFrac 39 v79 (unitF g.1.length a), .box b68 [t1, t2], .data RGame [t1, t2] (xpG g), .data RSS [v14] (pureTo g g.1.length), .box b3 [u1, u2], .lent RGame [u1, u2] g, .lent RSS [u1] g.1] H := h
  have n1 : (unitF g.1.length a).length = g.1.length := unitF_len _ _
  have n2 : (unitF (lw g) c).length = lw g := unitF_len _ _
  refine Wl.getA (b := b3) h rfl (Wi.call (fn10 (h.rd (cs := [u1, u2]) (x := g)) (h.rd (cs := [v79]) (r := RFS) (x := unitF g.1.length a)) (h.rd (cs := [v89]) (r := RFS) (x := unitF (lw g) c)) hw (by omega) (by omega) fun H l => ?_))
  have h := h.to l
  rw [pure_ie hg ha hcl hpb]
  simp only [gw]
  refine Wl.getA (b := b68) h rfl (Wi.call (fn10 (h.rd (cs := [t1, t2]) (x := xpG g)) (h.rd (cs := [v89]) (r := RFS) (x := unitF (lw g) c)) (h.rd (cs := [v79]) (r := RFS) (x := unitF g.1.length a)) hw2 (by omega) (by omega) fun H l => ?_))
  have h := h.to l
  rw [pure_back hg ha hcl hpb]
  simp only [gw]
  have hbr : brRes g 0 (unitF (lw g) c) = (bestL (gainsA g (unitI (lw g) c)), 0) := by unfold brRes; rw [if_pos hg, if_pos rfl, unit_mix hcl]
  have hin : ((a : Nat) : Int) ∈ bestL (gainsA g (unitI (lw g) c)) := by
    refine best_mem.2 ⟨by simp [gainsA]; exact ha, ?_⟩
    rw [gainsA_unit hg hcl]
    unfold isBest
    rw [List.all_eq_true]
    exact fun x hx => decide_eq_true (range_most (f := fun i => mAt g.1 i c) ha (pure_facts hpb).1 x hx)
  refine Wl.getA (b := b3) h rfl (Wi.call (fn32 (h.rd (cs := [u1, u2]) (x := g)) (by unfold I64; omega) (h.rd (cs := [v89]) (r := RFS) (x := unitF (lw g) c)) hw (by omega) fun H v100 f => ?_))
  have h := h.addG f
  rw [hbr]
  rw [hbr] at h
  have h : Ab.Loc H0 [.grow Rd.int 2 v100 (bestL (gainsA g (unitI (lw g) c))), .grow RFrac 39 v89 (unitF (lw g) c), .grow RFrac 39 v79 (unitF g.1.length a), .box b68 [t1, t2], .data RGame [t1, t2] (xpG g), .data RSS [v14] (pureTo g g.1.length), .box b3 [u1, u2], .lent RGame [u1, u2] g, .lent RSS [u1] g.1] H := h
  simp only [gw]
  refine Wi.neqC (fun q => absurd rfl q) fun _ => ?_
  simp only [gw]
  refine Wi.neqC (fun q => absurd rfl q) fun _ => ?_
  simp only [gw]
  refine Wi.neqC (fun q => absurd rfl q) fun _ => ?_
  simp only [gw]
  refine Wl.at1H rfl (h.rd (cs := [v14]) (r := RSS) (x := pureTo g g.1.length)) hip fun w hw' => Wl.atIntH hw' (i := 0) (by omega) fun _ => ?_
  rw [r0]
  refine Wi.call (fn12 (h.rd (cs := [v100]) (r := RS)) ?_)
  rw [decide_eq_true hin]
  simp only [gw]
  exact Wi.add (by unfold I64; omega) (hJ _ _ hip ⟨rfl, h.tl.tl.tl⟩)

theorem xp_w {g : Game} (hg : IsGm g) : wGame (xpG g) ≤ 1048576 := by
  have h := xp_game hg
  have k4 := h.k4
  have l4 := h.l4
  have bl := h.bl
  exact SmallA.w ⟨by omega, fun r hr => by have := (h.a r hr).1; omega, by omega, fun r hr => by have := (h.b r hr).1; omega⟩

theorem law4 {H0 : Heap} {bs0 : List Nat} {v0 : Value} {x0 : List Int} (hr0 : RBytes.rel H0 bs0 [v0] x0) : Runs Tryz.prog 4 #[v0] H0 (fun v _ => v = .bool true) := by
  classical
  have hc : Has RBytes H0 [v0] x0 := ⟨bs0, hr0⟩
  refine f4.enter ?_
  unfold f4.w
  refine Wi.call (f5.enter (Wl.lenH hc ?_))
  generalize (4096 : Int) = top
  refine Wi.gtrC (fun _ => Wi.tru rfl) fun _ => Wi.fls ?_
  refine Wi.call (fn21 hc fun H u1 u2 g l hgr hs => ?_)
  have hc := hc.le l
  obtain ⟨z1, z2, ez, r1, _⟩ := hasGame hgr
  cases ez
  have h := ((Loc.start H).lent r1).lent hgr
  have kc := hgr.cell
  refine Wl.new h fun H1 b h => Wl.putA (b := b) (i := 0) h rfl rfl kc fun H1 h => Wl.getA (b := b) h rfl (Wi.call (fnG22 (h.rd (cs := [u1, u2]) (x := g)) hs.w fun H1 v6 f => ?_))
  have h := h.add f
  simp only [gw]
  refine Wl.getA (b := b) h rfl (Wi.call (fnG23 (h.rd (cs := [u1, u2]) (x := g)) hs.w fun H1 v10 f => ?_))
  have h := h.add f
  simp only [gw]
  refine Wl.getA (b := b) h rfl (Wi.call (fn24 (h.rd (cs := [u1, u2]) (x := g)) hs.w fun H1 v14 f => ?_))
  have h := h.add f
  simp only [gw]
  refine Wl.getA (b := b) h rfl (Wi.call (fn25 (h.rd (cs := [u1, u2]) (x := g)) hs.w fun H1 v18 f => ?_))
  have h := h.add f
  simp only [gw]
  have h : Ab.Loc H [.data RSS [v18] (pureRes g).1, .data RSS [v14] (pureRes g).1, .data (Rd.slice RFG) [v10] (eqRes g).1, .data (Rd.slice RFG) [v6] (eqRes g).1, .box b [u1, u2], .lent RGame [u1, u2] g, .lent RSS [u1] g.1] H1 := h
  refine Wi.neqC (fun q => absurd rfl q) fun _ => ?_
  simp only [gw]
  refine Wi.callQ (fn26 (Has.ofG (h.rd (cs := [v6]) (r := Rd.slice RFG))) (Has.ofG (h.rd (cs := [v10]) (r := Rd.slice RFG))) ⟨.refl _, ?_⟩)
  simp only [gw]
  refine Wi.neqC (fun q => absurd rfl q) fun _ => ?_
  simp only [gw]
  refine Wi.callQ (fn27 (h.rd (cs := [v14]) (r := RSS)) (h.rd (cs := [v18]) (r := RSS)) ⟨.refl _, ?_⟩)
  simp only [gw]
  refine Wl.getA (b := b) h rfl (Wi.callQ (fn28 (h.rd (cs := [u1, u2]) (x := g)) hs.w fun H1 t1 l ht1 => ⟨l, ?_⟩))
  have h := h.to l
  refine Wl.getA (b := b) h rfl (Wi.callQ (fn29 (h.rd (cs := [u1, u2]) (x := g)) hs.w fun H1 t2 l ht2 => ⟨l, ?_⟩))
  have h := h.to l
  have et : t1 = t2 := by rw [Bool.eq_iff_iff, ht1, ht2]
  subst et
  refine Wi.neqBool ?_
  rw [beq_self_eq_true]
  simp only [gw, Bool.not_true]
  refine Wi.eqlC (fun h0 => Wi.tru ?_) fun _ => Wi.fls (gm_j1 (hc.le h.le))
  obtain ⟨hg, hne, hev⟩ := eqRes_good h0
  have hpu : (pureRes g).1 = pureTo g g.1.length := by unfold pureRes; rw [if_pos hg]
  have hxp : xpRes g = (xpG g, 0) := by unfold xpRes; rw [if_pos hg]
  have hnn : nG g = g.1.length + lw g := rfl
  have kl := hg.kl
  rw [hpu] at h
  have h : Ab.Loc H [.data RSS [v14] (pureTo g g.1.length), .data (Rd.slice RFG) [v6] (eqRes g).1, .box b [u1, u2], .lent RGame [u1, u2] g, .lent RSS [u1] g.1] H1 := h.tl.cut 1
  have hsm := (h.rd (cs := [v6]) (r := Rd.slice RFG) (x := (eqRes g).1)).small
  have hlp : 0 < (eqRes g).1.length := List.length_pos_iff.2 hne
  refine Wi.fieldAddr0 (Wl.get (b := b) h rfl (Wl.len (v := u1) (xs := g.1) h (Wl.lenH (h.rd (cs := [v6]) (r := Rd.slice RFG) (x := (eqRes g).1)) (Wi.lssC (fun q => absurd q (by omega)) fun _ => Wi.fls ?_))))
  refine W.for_rule (eqRes g).1.length (fun i st H1 => st = (.int .i64 (i : Nat), ()) ∧ Ab.Loc H [.data RSS [v14] (pureTo g g.1.length), .data (Rd.slice RFG) [v6] (eqRes g).1, .box b [u1, u2], .lent RGame [u1, u2] g, .lent RSS [u1] g.1] H1) ⟨rfl, h⟩ ?_
  rintro i st H1 J hi ⟨rfl, h⟩ hJ
  unfold f4.l1
  refine Wl.lenH (h.rd (cs := [v6]) (r := Rd.slice RFG) (x := (eqRes g).1)) (Wi.lssC (fun hlt => Wi.tru ?_) fun hge => Wi.fls ?_)
  · have hie : i < (eqRes g).1.length := by omega
    obtain ⟨z, D, hz, hm, e1⟩ := hev _ (List.getElem_mem hie)
    obtain ⟨_, _, zl⟩ := hz.mix hm
    have hgood := hz.good hg hm
    rw [← e1] at zl hgood
    refine Wl.getA (b := b) h rfl (Wl.at1H rfl (h.rd (cs := [v6]) (r := Rd.slice RFG) (x := (eqRes g).1)) hie fun w hw => Wl.cutLoH hw.ofG1 (by omega) fun w1 hw1 => Wl.at1H rfl (h.rd (cs := [v6]) (r := Rd.slice RFG) (x := (eqRes g).1)) hie fun w' hw' => Wl.cutHiG rfl hw' (by omega) fun w2 hw2 => ?_)
    refine Wi.callQ (fn10 (h.rd (cs := [u1, u2]) (x := g)) hw1 hw2 hs.w (by simp; omega) (by simp; omega) fun H2 l2 => ⟨l2, ?_⟩)
    have h := h.to l2
    simp only [gw]
    refine Wi.eqlC (fun hc0 => ?_) fun _ => ?_
    · rw [hgood hc0]
      simp only [gw]
      exact Wi.add (by unfold I64; omega) (hJ _ _ hie ⟨rfl, h⟩)
    · simp only [gw]
      exact Wi.add (by unfold I64; omega) (hJ _ _ hie ⟨rfl, h⟩)
  · refine Wl.getA (b := b) h rfl (Wi.call (fn30 (h.rd (cs := [u1, u2]) (x := g)) hs.w fun H1 t1 t2 f => ?_))
    have h := h.add f
    rw [hxp] at h ⊢
    have kc := (h.rd (cs := [t1, t2]) (r := RGame) (x := xpG g)).cell
    simp only [gw]
    refine Wl.new h fun H1 b68 h => Wl.putA (b := b68) (i := 0) h rfl rfl kc fun H1 h => ?_
    have h : Ab.Loc H [.box b68 [t1, t2], .data RGame [t1, t2] (xpG g), .data RSS [v14] (pureTo g g.1.length), .data (Rd.slice RFG) [v6] (eqRes g).1, .box b [u1, u2], .lent RGame [u1, u2] g, .lent RSS [u1] g.1] H1 := h
    refine Wi.neqC (fun q => absurd rfl q) fun _ => Wi.fls ?_
    exact gm_pure hc hg hs.w (xp_w hg) (h.cut 3)

end Go.Proofs.YtbcfknboheghkaaGreat
