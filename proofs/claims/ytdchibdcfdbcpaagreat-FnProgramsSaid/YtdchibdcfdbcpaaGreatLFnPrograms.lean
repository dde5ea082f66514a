/- The law FnPrograms answers true on any abstract heap that holds its code. No condition. -/
import Derived.Test.YtdchibdcfdbcpaaGreatPG1
import Derived.Test.YtdchibdcfdbcpaaGreatGMX
import Derived.Test.YtdchibdcfdbcpaaGreatGWW
import Derived.Test.YtdchibdcfdbcpaaGreatGMM
import Derived.Test.YtdchibdcfdbcpaaGreatGQX
import Derived.Test.YtdchibdcfdbcpaaGreatGYZ
import Derived.Test.YtdchibdcfdbcpaaGreatDI0
import Derived.Test.YtdchibdcfdbcpaaGreatReadsY
namespace Go.Proofs.YtdchibdcfdbcpaaGreat
open Go.Ab

/- loop.example/g01343/laws.FnPrograms -/
def f4.l2 (Q : Post) (v6 : Value) (v91 : Value) (v3 : Value) (v10 : Value) (t_23 : Value) (I1 : St [23] → Heap → Prop) (I2 : St [24, 25] → Heap → Prop) (near_24 : Value) (i_25 : Value) (H : Heap) : Prop :=
  W.len v6 H fun v94 H =>
  W.bin .lss i_25 v94 H fun v95 H =>
  W.cond v95 H
  (fun H => W.call Tryz.prog (.func (.func 33) #[] #[]) #[v91, (.int .i64 6)] H fun v96 H =>
   W.build [(.int .i64 0), (.int .i64 0)] [(0, 1, v96), (1, 1, (.int .i64 1))] H fun v97 H =>
   W.lit 1 [(.int .i64 0), (.int .i64 0)] 34 [(0, 2, v97)] H fun v98 H =>
   W.append 2 34 near_24 v98 H fun v99 H =>
   W.bin .add i_25 (.int .i64 1) H fun v100 H =>
   I2 (v99, v100, ()) H)
  (fun H => W.getN 4 v3 H fun v101 H =>
   W.call Tryz.prog (.func (.func 30) #[] #[]) #[v101, near_24] H fun v102 H =>
   W.extract 0 v102 H fun v103 H =>
   W.extract 1 v102 H fun v104 H =>
   W.getN 4 v3 H fun v105 H =>
   W.call Tryz.prog (.func (.func 21) #[] #[]) #[v105, near_24] H fun v106 H =>
   W.extract 0 v106 H fun v107 H =>
   W.extract 1 v106 H fun v108 H =>
   W.new [(.int .i64 0), (.int .i64 0)] 34 H fun v109 H =>
   W.putN 2 v109 v107 H fun _ H =>
   W.bin .neq v104 (.int .i64 0) H fun v110 H =>
   W.guarded v110 false (fun H k => k v108 H) H fun v111 H =>
   W.guarded v110 false (fun H k => W.bin .neq v111 (.int .i64 0) H k) H fun v112 H =>
   W.pick v110 (.bool true) v112 H fun v113 H =>
   W.cond v113 H
   (fun H => Q (.bool false) H)
   (fun H => W.getN 2 v109 H fun v114 H =>
    W.getN 2 v10 H fun v115 H =>
    W.call Tryz.prog (.func (.func 22) #[] #[]) #[v114, v115] H fun v116 H =>
    W.extract 0 v116 H fun v117 H =>
    W.extract 1 v116 H fun v118 H =>
    W.bin .neq v118 (.int .i64 0) H fun v119 H =>
    W.guarded v119 false (fun H k => k v103 H) H fun v120 H =>
    W.guarded v119 false (fun H k => k v120 H) H fun v121 H =>
    W.guarded v121 true (fun H k => k v117 H) H fun v122 H =>
    W.guarded v121 true (fun H k => W.bin .lss v122 (.int .i64 0) H k) H fun v123 H =>
    W.guarded v119 false (fun H k => W.pick v121 v123 (.bool false) H k) H fun v124 H =>
    W.pick v119 (.bool true) v124 H fun v125 H =>
    W.cond v125 H
    (fun H => Q (.bool false) H)
    (fun H => W.bin .add t_23 (.int .i64 1) H fun v126 H =>
     I1 (v126, ()) H)))
def f4.j1 (Q : Post) (v9 : Value) (v20 : Value) (code_0 : Value) (H : Heap) : Prop :=
  W.bin .eql v9 (.int .i64 5) H fun v127 H =>
  W.guarded v127 true (fun H k => k v20 H) H fun v128 H =>
  W.pick v127 v128 (.bool false) H fun v129 H =>
  W.cond v129 H
  (fun H => Q (.bool false) H)
  (fun H => W.call Tryz.prog (.func (.func 34) #[] #[]) #[code_0] H fun v130 H =>
   W.new [(.slice none 0 0), (.slice none 0 0), (.slice none 0 0), (.slice none 0 0)] 27 H fun v131 H =>
   W.putN 4 v131 v130 H fun _ H =>
   W.getN 4 v131 H fun v132 H =>
   W.call Tryz.prog (.func (.func 35) #[] #[]) #[v132] H fun v133 H =>
   W.extract 0 v133 H fun v134 H =>
   W.extract 1 v133 H fun v135 H =>
   W.new [(.slice none 0 0), (.slice none 0 0)] 62 H fun v136 H =>
   W.putN 2 v136 v134 H fun _ H =>
   W.getN 4 v131 H fun v137 H =>
   W.call Tryz.prog (.func (.func 36) #[] #[]) #[v137] H fun v138 H =>
   W.extract 0 v138 H fun v139 H =>
   W.extract 1 v138 H fun v140 H =>
   W.new [(.slice none 0 0), (.slice none 0 0)] 62 H fun v141 H =>
   W.putN 2 v141 v139 H fun _ H =>
   W.call Tryz.prog (.func (.func 37) #[] #[]) #[code_0] H fun v142 H =>
   W.extract 0 v142 H fun v143 H =>
   W.extract 1 v142 H fun v144 H =>
   W.new [(.slice none 0 0), (.slice none 0 0), (.slice none 0 0), (.slice none 0 0)] 27 H fun v145 H =>
   W.putN 4 v145 v143 H fun _ H =>
   W.getN 4 v145 H fun v146 H =>
   W.call Tryz.prog (.func (.func 21) #[] #[]) #[v146, v144] H fun v147 H =>
   W.extract 0 v147 H fun v148 H =>
   W.extract 1 v147 H fun v149 H =>
   W.new [(.int .i64 0), (.int .i64 0)] 34 H fun v150 H =>
   W.putN 2 v150 v148 H fun _ H =>
   W.getN 4 v145 H fun v151 H =>
   W.call Tryz.prog (.func (.func 38) #[] #[]) #[v151, v144] H fun v152 H =>
   W.extract 0 v152 H fun v153 H =>
   W.extract 1 v152 H fun v154 H =>
   W.new [(.int .i64 0), (.int .i64 0)] 34 H fun v155 H =>
   W.putN 2 v155 v153 H fun _ H =>
   W.getN 4 v145 H fun v156 H =>
   W.call Tryz.prog (.func (.func 39) #[] #[]) #[v156, v144] H fun v157 H =>
   W.extract 0 v157 H fun v158 H =>
   W.extract 1 v157 H fun v159 H =>
   W.getN 4 v145 H fun v160 H =>
   W.call Tryz.prog (.func (.func 40) #[] #[]) #[v160, v144] H fun v161 H =>
   W.extract 0 v161 H fun v162 H =>
   W.extract 1 v161 H fun v163 H =>
   W.getN 4 v145 H fun v164 H =>
   W.call Tryz.prog (.func (.func 30) #[] #[]) #[v164, v144] H fun v165 H =>
   W.extract 0 v165 H fun v166 H =>
   W.extract 1 v165 H fun v167 H =>
   W.getN 4 v145 H fun v168 H =>
   W.call Tryz.prog (.func (.func 41) #[] #[]) #[v168, v144] H fun v169 H =>
   W.extract 0 v169 H fun v170 H =>
   W.extract 1 v169 H fun v171 H =>
   W.call Tryz.prog (.func (.func 42) #[] #[]) #[code_0] H fun v172 H =>
   W.extract 0 v172 H fun v173 H =>
   W.extract 1 v172 H fun v174 H =>
   W.extract 2 v172 H fun v175 H =>
   W.new [(.slice none 0 0), (.slice none 0 0), (.slice none 0 0), (.slice none 0 0)] 27 H fun v176 H =>
   W.putN 4 v176 v173 H fun _ H =>
   W.getN 4 v176 H fun v177 H =>
   W.call Tryz.prog (.func (.func 31) #[] #[]) #[v177, v174, v175] H fun v178 H =>
   W.extract 0 v178 H fun v179 H =>
   W.extract 1 v178 H fun v180 H =>
   W.getN 4 v176 H fun v181 H =>
   W.call Tryz.prog (.func (.func 43) #[] #[]) #[v181, v174, v175] H fun v182 H =>
   W.extract 0 v182 H fun v183 H =>
   W.extract 1 v182 H fun v184 H =>
   W.bin .eql v135 v140 H fun v185 H =>
   W.guarded v185 true (fun H k => W.getN 2 v136 H k) H fun v186 H =>
   W.guarded v185 true (fun H k => W.getN 2 v141 H k) H fun v187 H =>
   W.guarded v185 true (fun H k => W.call Tryz.prog (.func (.func 44) #[] #[]) #[v186, v187] H k) H fun v188 H =>
   W.pick v185 v188 (.bool false) H fun v189 H =>
   W.guarded v189 true (fun H k => k v149 H) H fun v190 H =>
   W.guarded v189 true (fun H k => k v154 H) H fun v191 H =>
   W.guarded v189 true (fun H k => W.bin .eql v190 v191 H k) H fun v192 H =>
   W.pick v189 v192 (.bool false) H fun v193 H =>
   W.guarded v193 true (fun H k => W.getN 2 v150 H k) H fun v194 H =>
   W.guarded v193 true (fun H k => W.getN 2 v155 H k) H fun v195 H =>
   W.guarded v193 true (fun H k => W.eqPair .eql v194 v195 H k) H fun v196 H =>
   W.pick v193 v196 (.bool false) H fun v197 H =>
   W.guarded v197 true (fun H k => k v159 H) H fun v198 H =>
   W.guarded v197 true (fun H k => k v163 H) H fun v199 H =>
   W.guarded v197 true (fun H k => W.bin .eql v198 v199 H k) H fun v200 H =>
   W.pick v197 v200 (.bool false) H fun v201 H =>
   W.guarded v201 true (fun H k => k v158 H) H fun v202 H =>
   W.guarded v201 true (fun H k => k v162 H) H fun v203 H =>
   W.guarded v201 true (fun H k => W.call Tryz.prog (.func (.func 27) #[] #[]) #[v202, v203] H k) H fun v204 H =>
   W.pick v201 v204 (.bool false) H fun v205 H =>
   W.guarded v205 true (fun H k => k v167 H) H fun v206 H =>
   W.guarded v205 true (fun H k => k v171 H) H fun v207 H =>
   W.guarded v205 true (fun H k => W.bin .eql v206 v207 H k) H fun v208 H =>
   W.pick v205 v208 (.bool false) H fun v209 H =>
   W.guarded v209 true (fun H k => k v166 H) H fun v210 H =>
   W.guarded v209 true (fun H k => k v170 H) H fun v211 H =>
   W.guarded v209 true (fun H k => W.eqBool .eql v210 v211 H k) H fun v212 H =>
   W.pick v209 v212 (.bool false) H fun v213 H =>
   W.guarded v213 true (fun H k => k v180 H) H fun v214 H =>
   W.guarded v213 true (fun H k => k v184 H) H fun v215 H =>
   W.guarded v213 true (fun H k => W.bin .eql v214 v215 H k) H fun v216 H =>
   W.pick v213 v216 (.bool false) H fun v217 H =>
   W.guarded v217 true (fun H k => k v179 H) H fun v218 H =>
   W.guarded v217 true (fun H k => k v183 H) H fun v219 H =>
   W.guarded v217 true (fun H k => W.eqBool .eql v218 v219 H k) H fun v220 H =>
   W.pick v217 v220 (.bool false) H fun v221 H =>
   Q v221 H)
def f4.l1 (Q : Post) (v6 : Value) (v91 : Value) (v3 : Value) (v10 : Value) (v9 : Value) (v20 : Value) (code_0 : Value) (I1 : St [23] → Heap → Prop) (t_23 : Value) (H : Heap) : Prop :=
  W.bin .lss t_23 (.int .i64 5) H fun v92 H =>
  W.cond v92 H
  (fun H => W.lit 0 [(.int .i64 0), (.int .i64 0)] 34 [] H fun v93 H =>
   W.loop (S := St [24, 25]) (fun I2 s H => f4.l2 Q v6 v91 v3 v10 t_23 I1 I2 s.1 s.2.1 H) (v93, (.int .i64 0), ()) H)
  (fun H => f4.j1 Q v9 v20 code_0 H)
def f4.w (Q : Post) (code_0 : Value) (H : Heap) : Prop :=
  W.call Tryz.prog (.func (.func 5) #[] #[]) #[code_0] H fun v1 H =>
  W.cond v1 H
  (fun H => Q (.bool true) H)
  (fun H => W.call Tryz.prog (.func (.func 23) #[] #[]) #[code_0] H fun v2 H =>
   W.new [(.slice none 0 0), (.slice none 0 0), (.slice none 0 0), (.slice none 0 0)] 27 H fun v3 H =>
   W.putN 4 v3 v2 H fun _ H =>
   W.getN 4 v3 H fun v4 H =>
   W.call Tryz.prog (.func (.func 10) #[] #[]) #[v4] H fun v5 H =>
   W.extract 0 v5 H fun v6 H =>
   W.extract 1 v5 H fun v7 H =>
   W.extract 2 v5 H fun v8 H =>
   W.extract 3 v5 H fun v9 H =>
   W.new [(.int .i64 0), (.int .i64 0)] 34 H fun v10 H =>
   W.putN 2 v10 v8 H fun _ H =>
   W.getN 4 v3 H fun v11 H =>
   W.call Tryz.prog (.func (.func 24) #[] #[]) #[v11] H fun v12 H =>
   W.extract 0 v12 H fun v13 H =>
   W.extract 1 v12 H fun v14 H =>
   W.extract 2 v12 H fun v15 H =>
   W.extract 3 v12 H fun v16 H =>
   W.new [(.int .i64 0), (.int .i64 0)] 34 H fun v17 H =>
   W.putN 2 v17 v15 H fun _ H =>
   W.getN 4 v3 H fun v18 H =>
   W.call Tryz.prog (.func (.func 25) #[] #[]) #[v18] H fun v19 H =>
   W.extract 0 v19 H fun v20 H =>
   W.extract 1 v19 H fun v21 H =>
   W.getN 4 v3 H fun v22 H =>
   W.call Tryz.prog (.func (.func 26) #[] #[]) #[v22] H fun v23 H =>
   W.extract 0 v23 H fun v24 H =>
   W.extract 1 v23 H fun v25 H =>
   W.bin .neq v9 v16 H fun v26 H =>
   W.guarded v26 false (fun H k => k v6 H) H fun v27 H =>
   W.guarded v26 false (fun H k => k v13 H) H fun v28 H =>
   W.guarded v26 false (fun H k => W.callQ Tryz.prog (.func (.func 27) #[] #[]) #[v27, v28] H k) H fun v29 H =>
   W.guarded v26 false (fun H k => W.un .not v29 H k) H fun v30 H =>
   W.pick v26 (.bool true) v30 H fun v31 H =>
   W.guarded v31 false (fun H k => k v7 H) H fun v32 H =>
   W.guarded v31 false (fun H k => k v14 H) H fun v33 H =>
   W.guarded v31 false (fun H k => W.callQ Tryz.prog (.func (.func 27) #[] #[]) #[v32, v33] H k) H fun v34 H =>
   W.guarded v31 false (fun H k => W.un .not v34 H k) H fun v35 H =>
   W.pick v31 (.bool true) v35 H fun v36 H =>
   W.guarded v36 false (fun H k => W.getN 2 v10 H k) H fun v37 H =>
   W.guarded v36 false (fun H k => W.getN 2 v17 H k) H fun v38 H =>
   W.guarded v36 false (fun H k => W.eqPair .neq v37 v38 H k) H fun v39 H =>
   W.pick v36 (.bool true) v39 H fun v40 H =>
   W.guarded v40 false (fun H k => k v21 H) H fun v41 H =>
   W.guarded v40 false (fun H k => k v25 H) H fun v42 H =>
   W.guarded v40 false (fun H k => W.bin .neq v41 v42 H k) H fun v43 H =>
   W.pick v40 (.bool true) v43 H fun v44 H =>
   W.guarded v44 false (fun H k => k v20 H) H fun v45 H =>
   W.guarded v44 false (fun H k => k v24 H) H fun v46 H =>
   W.guarded v44 false (fun H k => W.eqBool .neq v45 v46 H k) H fun v47 H =>
   W.pick v44 (.bool true) v47 H fun v48 H =>
   W.guarded v48 false (fun H k => W.getN 4 v3 H k) H fun v49 H =>
   W.guarded v48 false (fun H k => W.callQ Tryz.prog (.func (.func 28) #[] #[]) #[v49] H k) H fun v50 H =>
   W.guarded v48 false (fun H k => W.getN 4 v3 H k) H fun v51 H =>
   W.guarded v48 false (fun H k => W.callQ Tryz.prog (.func (.func 29) #[] #[]) #[v51] H k) H fun v52 H =>
   W.guarded v48 false (fun H k => W.eqBool .neq v50 v52 H k) H fun v53 H =>
   W.pick v48 (.bool true) v53 H fun v54 H =>
   W.cond v54 H
   (fun H => Q (.bool false) H)
   (fun H => W.bin .eql v9 (.int .i64 0) H fun v55 H =>
    W.cond v55 H
    (fun H => W.getN 4 v3 H fun v56 H =>
     W.call Tryz.prog (.func (.func 30) #[] #[]) #[v56, v6] H fun v57 H =>
     W.extract 0 v57 H fun v58 H =>
     W.extract 1 v57 H fun v59 H =>
     W.getN 4 v3 H fun v60 H =>
     W.call Tryz.prog (.func (.func 31) #[] #[]) #[v60, v6, v7] H fun v61 H =>
     W.extract 0 v61 H fun v62 H =>
     W.extract 1 v61 H fun v63 H =>
     W.getN 4 v3 H fun v64 H =>
     W.call Tryz.prog (.func (.func 21) #[] #[]) #[v64, v6] H fun v65 H =>
     W.extract 0 v65 H fun v66 H =>
     W.extract 1 v65 H fun v67 H =>
     W.new [(.int .i64 0), (.int .i64 0)] 34 H fun v68 H =>
     W.putN 2 v68 v66 H fun _ H =>
     W.bin .eql v59 (.int .i64 0) H fun v69 H =>
     W.guarded v69 true (fun H k => k v58 H) H fun v70 H =>
     W.guarded v69 true (fun H k => W.un .not v70 H k) H fun v71 H =>
     W.pick v69 v71 (.bool false) H fun v72 H =>
     W.guarded v72 false (fun H k => k v63 H) H fun v73 H =>
     W.guarded v72 false (fun H k => W.bin .eql v73 (.int .i64 0) H k) H fun v74 H =>
     W.guarded v72 false (fun H k => k v74 H) H fun v75 H =>
     W.guarded v75 true (fun H k => k v62 H) H fun v76 H =>
     W.guarded v75 true (fun H k => W.un .not v76 H k) H fun v77 H =>
     W.guarded v72 false (fun H k => W.pick v75 v77 (.bool false) H k) H fun v78 H =>
     W.pick v72 (.bool true) v78 H fun v79 H =>
     W.guarded v79 false (fun H k => k v67 H) H fun v80 H =>
     W.guarded v79 false (fun H k => W.bin .eql v80 (.int .i64 0) H k) H fun v81 H =>
     W.guarded v79 false (fun H k => k v81 H) H fun v82 H =>
     W.guarded v82 true (fun H k => W.getN 2 v68 H k) H fun v83 H =>
     W.guarded v82 true (fun H k => W.getN 2 v10 H k) H fun v84 H =>
     W.guarded v82 true (fun H k => W.eqPair .neq v83 v84 H k) H fun v85 H =>
     W.guarded v79 false (fun H k => W.pick v82 v85 (.bool false) H k) H fun v86 H =>
     W.pick v79 (.bool true) v86 H fun v87 H =>
     W.guarded v87 false (fun H k => k v20 H) H fun v88 H =>
     W.guarded v87 false (fun H k => W.un .not v88 H k) H fun v89 H =>
     W.pick v87 (.bool true) v89 H fun v90 H =>
     W.cond v90 H
     (fun H => Q (.bool false) H)
     (fun H => W.call Tryz.prog (.func (.func 32) #[] #[]) #[code_0, (.int .u64 47)] H fun v91 H =>
      W.loop (S := St [23]) (fun I1 s H => f4.l1 Q v6 v91 v3 v10 v9 v20 code_0 I1 s.1 H) ((.int .i64 0), ()) H))
    (fun H => f4.j1 Q v9 v20 code_0 H)))
theorem f4.enter {Q : Post} {code_0 : Value} {H : Heap} (h : f4.w Q code_0 H) : Runs Tryz.prog 4 #[code_0] H Q :=
  fn_enter (ann := [(18, [23]), (22, [24, 25])]) (by kernel_rfl) Tryz.func4 rfl (by kernel_rfl) h (by kernel_rfl)


abbrev qTp : Post := fun v _ => v = .bool true

/-- The program's answers are those of the reference. -/
theorem pg_j1 {H0 : Heap} {v0 : Value} {x0 : List Int} {g : Prg} (hc : Has RBytes H0 [v0] x0) : f4.j1 qTp (.int .i64 (moRes g).2.2.2) (.bool (convRes g).1) v0 H0 := by
  unfold f4.j1
  have rest : ∀ b : Bool, b = false → W.cond (.bool b) H0 (fun H => qTp (.bool false) H) (fun H => W.call Tryz.prog (.func (.func 34) #[] #[]) #[v0] H fun v130 H => qTp v130 H) → True := fun _ _ _ => trivial
  clear rest
  have go : ∀ K1 : Post, (∀ H, H = H0 → K1 (.bool false) H) → W.bin .eql (.int .i64 (moRes g).2.2.2) (.int .i64 5) H0 (fun v127 H => W.guarded v127 true (fun H k => k (.bool (convRes g).1) H) H fun v128 H => W.pick v127 v128 (.bool false) H K1) := fun K1 hK => by
    refine Wi.eqlC (fun h => ?_) fun _ => ?_
    · simp only [gw]
      rw [mo_state h]
      exact hK _ rfl
    · simp only [gw]
      exact hK _ rfl
  refine go _ ?_
  rintro H rfl
  simp only [gw]
  -- the problem
  refine Wi.call (fn34 hc fun H1 u1 u2 u3 u4 p f hp => ?_)
  have h := (Loc.start H).add f
  have kp := (h.rd (cs := [u1, u2, u3, u4]) (r := RPrg) (x := p)).cell
  refine Wl.new h fun H1 b131 h => Wl.putA (b := b131) (i := 0) h rfl rfl kp fun H1 h => ?_
  refine Wl.getA (b := b131) h rfl (Wi.call (fn35 (h.rd (cs := [u1, u2, u3, u4]) (x := p)) hp.w fun H1 cs f => ?_))
  obtain ⟨m1, m2, rfl, _, _⟩ := hasProb f.read
  have h := h.add f
  have km := (h.rd (cs := [m1, m2]) (r := RProblem) (x := (ppRes p).1)).cell
  simp only [gw]
  refine Wl.new h fun H1 b136 h => Wl.putA (b := b136) (i := 0) h rfl rfl km fun H1 h => Wl.getA (b := b131) h rfl (Wi.call (fn36 (h.rd (cs := [u1, u2, u3, u4]) (x := p)) hp.w fun H1 cs f => ?_))
  obtain ⟨o1, o2, rfl, _, _⟩ := hasProb f.read
  have h := h.add f
  have ko := (h.rd (cs := [o1, o2]) (r := RProblem) (x := (ppRes p).1)).cell
  simp only [gw]
  refine Wl.new h fun H1 b141 h => Wl.putA (b := b141) (i := 0) h rfl rfl ko fun H1 h => ?_
  have h : Ab.Loc H [.box b141 [o1, o2], .data RProblem [o1, o2] (ppRes p).1, .box b136 [m1, m2], .data RProblem [m1, m2] (ppRes p).1, .box b131 [u1, u2, u3, u4], .data RPrg [u1, u2, u3, u4] p] H1 := h
  -- values and slopes
  refine Wi.call (fn37 (hc.le h.le) fun H1 w1 w2 w3 w4 q vx xs f hq hx => ?_)
  have h := h.add2 (r := RPrg) (s := RFS) (c1 := [w1, w2, w3, w4]) (c2 := [vx]) rfl f
  have kq := (h.rd (cs := [w1, w2, w3, w4]) (r := RPrg) (x := q)).cell
  simp only [gw]
  refine Wl.new h fun H1 b145 h => Wl.putA (b := b145) (i := 0) h rfl rfl kq fun H1 h => ?_
  refine Wl.getA (b := b145) h rfl (Wi.call (fn21 (h.rd (cs := [w1, w2, w3, w4]) (x := q)) (h.rd (cs := [vx]) (x := xs)) hq.w (by omega) fun H1 l => ?_))
  have h := h.to l
  simp only [gw]
  refine Wl.new h fun H1 b150 h => Wl.putA (b := b150) (i := 0) h rfl rfl rfl fun H1 h => Wl.getA (b := b145) h rfl (Wi.call (fn38 (h.rd (cs := [w1, w2, w3, w4]) (x := q)) (h.rd (cs := [vx]) (x := xs)) hq.w (by omega) fun H1 l => ?_))
  have h := h.to l
  simp only [gw]
  refine Wl.new h fun H1 b155 h => Wl.putA (b := b155) (i := 0) h rfl rfl rfl fun H1 h => Wl.getA (b := b145) h rfl (Wi.call (fn39 (h.rd (cs := [w1, w2, w3, w4]) (x := q)) (h.rd (cs := [vx]) (x := xs)) hq.w (by omega) fun H1 v158 f => ?_))
  have h := h.add f
  simp only [gw]
  refine Wl.getA (b := b145) h rfl (Wi.call (fn40 (h.rd (cs := [w1, w2, w3, w4]) (x := q)) (h.rd (cs := [vx]) (x := xs)) hq.w (by omega) fun H1 v162 f => ?_))
  have h := h.add f
  simp only [gw]
  refine Wl.getA (b := b145) h rfl (Wi.call (fn30 (h.rd (cs := [w1, w2, w3, w4]) (x := q)) (h.rd (cs := [vx]) (x := xs)) hq.w (by omega) fun H1 l => ?_))
  have h := h.to l
  simp only [gw]
  refine Wl.getA (b := b145) h rfl (Wi.call (fn41 (h.rd (cs := [w1, w2, w3, w4]) (x := q)) (h.rd (cs := [vx]) (x := xs)) hq.w (by omega) fun H1 l => ?_))
  have h := h.to l
  simp only [gw]
  have h : Ab.Loc H [.data RFS [v162] (saRes q xs).1, .data RFS [v158] (saRes q xs).1, .box b155 (frC (vaRes q xs).1), .box b150 (frC (vaRes q xs).1), .box b145 [w1, w2, w3, w4], .data RPrg [w1, w2, w3, w4] q, .data RFS [vx] xs, .box b141 [o1, o2], .data RProblem [o1, o2] (ppRes p).1, .box b136 [m1, m2], .data RProblem [m1, m2] (ppRes p).1, .box b131 [u1, u2, u3, u4], .data RPrg [u1, u2, u3, u4] p] H1 := h
  have h := h.first 11
  have h : Ab.Loc H [.data RFS [v162] (saRes q xs).1, .data RFS [v158] (saRes q xs).1, .box b155 (frC (vaRes q xs).1), .box b150 (frC (vaRes q xs).1), .box b145 [w1, w2, w3, w4], .data RPrg [w1, w2, w3, w4] q, .data RFS [vx] xs, .box b141 [o1, o2], .data RProblem [o1, o2] (ppRes p).1, .box b136 [m1, m2], .data RProblem [m1, m2] (ppRes p).1] H1 := h
  have h := ((h.cut 4).cut 4).cut 4
  have h : Ab.Loc H [.data RFS [v162] (saRes q xs).1, .data RFS [v158] (saRes q xs).1, .box b155 (frC (vaRes q xs).1), .box b150 (frC (vaRes q xs).1), .box b141 [o1, o2], .data RProblem [o1, o2] (ppRes p).1, .box b136 [m1, m2], .data RProblem [m1, m2] (ppRes p).1] H1 := h
  -- stationary places
  refine Wi.call (fn42 (hc.le h.le) fun H1 y1 y2 y3 y4 r vb bs vc cs f hr hb hcs => ?_)
  have h := h.add2 (r := RPrg) (s := Rd.pair RFS RFS) (c1 := [y1, y2, y3, y4]) (c2 := [vb, vc]) rfl f
  have h := (h.front 1 rfl).unpair (r := RFS) (s := RFS) (c1 := [vb]) (c2 := [vc]) (x := bs) (y := cs) rfl
  have h : Ab.Loc H [.data RFS [vb] bs, .data RFS [vc] cs, .data RPrg [y1, y2, y3, y4] r, .data RFS [v162] (saRes q xs).1, .data RFS [v158] (saRes q xs).1, .box b155 (frC (vaRes q xs).1), .box b150 (frC (vaRes q xs).1), .box b141 [o1, o2], .data RProblem [o1, o2] (ppRes p).1, .box b136 [m1, m2], .data RProblem [m1, m2] (ppRes p).1] H1 := h
  have kr := (h.rd (cs := [y1, y2, y3, y4]) (r := RPrg) (x := r)).cell
  simp only [gw]
  refine Wl.new h fun H1 b176 h => Wl.putA (b := b176) (i := 0) h rfl rfl kr fun H1 h => ?_
  refine Wl.getA (b := b176) h rfl (Wi.call (fn31 (h.rd (cs := [y1, y2, y3, y4]) (x := r)) (h.rd (cs := [vb]) (x := bs)) (h.rd (cs := [vc]) (x := cs)) hr.w (by omega) (by omega) fun H1 l => ?_))
  have h := h.to l
  simp only [gw]
  refine Wl.getA (b := b176) h rfl (Wi.call (fn43 (h.rd (cs := [y1, y2, y3, y4]) (x := r)) (h.rd (cs := [vb]) (x := bs)) (h.rd (cs := [vc]) (x := cs)) hr.w (by omega) (by omega) fun H1 l => ?_))
  have h := h.to l
  simp only [gw]
  have h := (((h.cut 0).cut 0).cut 0).cut 0
  have h : Ab.Loc H [.data RFS [v162] (saRes q xs).1, .data RFS [v158] (saRes q xs).1, .box b155 (frC (vaRes q xs).1), .box b150 (frC (vaRes q xs).1), .box b141 [o1, o2], .data RProblem [o1, o2] (ppRes p).1, .box b136 [m1, m2], .data RProblem [m1, m2] (ppRes p).1] H1 := h
  refine Wi.eqlC (fun _ => ?_) fun g => absurd rfl g
  simp only [gw]
  refine Wl.getA (b := b136) h rfl (Wl.getA (b := b141) h rfl (Wi.call (fn44 (h.rd (cs := [m1, m2]) (x := (ppRes p).1)) (h.rd (cs := [o1, o2]) (x := (ppRes p).1)) fun H1 l => ?_)))
  have h := h.to l
  simp only [gw]
  refine Wi.eqlC (fun _ => ?_) fun g => absurd rfl g
  simp only [gw]
  have hi := va_i64 q xs
  refine Wl.getA (b := b150) h rfl (Wl.getA (b := b155) h rfl (Wi.eqPair hi.1 hi.2 hi.1 hi.2 ?_))
  simp only [gw, decide_true, Bool.and_self]
  refine Wi.eqlC (fun _ => ?_) fun g => absurd rfl g
  simp only [gw]
  refine Wi.call (fn27 (h.rd (cs := [v158]) (x := (saRes q xs).1)) (h.rd (cs := [v162]) (x := (saRes q xs).1)) ?_)
  rw [decide_eq_true rfl]
  simp only [gw]
  refine Wi.eqlC (fun _ => ?_) fun g => absurd rfl g
  simp only [gw]
  refine Wi.eqBool ?_
  rw [beq_self_eq_true]
  simp only [gw]
  refine Wi.eqlC (fun _ => ?_) fun g => absurd rfl g
  simp only [gw]
  refine Wi.eqBool ?_
  rw [beq_self_eq_true]

/-- No place near has a lesser value. -/
theorem pg_loop {H0 H : Heap} {L : List (Atom H0.next)} {v0 v6 d : Value} {x0 : List Int} {g : Prg} {b3 b10 db : Nat} {u1 u2 u3 u4 : Value} (hd : d = pt db 0) (hg : SmallG g) (hc : Has RBytes H0 [v0] x0) (h1 : (moRes g).2.2.2 = 0)
    (h : Ab.Loc H0 (.src db v0 x0 :: .box b3 [u1, u2, u3, u4] :: .data RPrg [u1, u2, u3, u4] g :: .box b10 (frC (moRes g).2.2.1) :: .data RFS [v6] (moRes g).1 :: L) H) :
    W.loop (S := St [23]) (fun I1 s H => f4.l1 qTp v6 d (pt b3 0) (pt b10 0) (.int .i64 (moRes g).2.2.2) (.bool (convRes g).1) v0 I1 s.1 H) ((.int .i64 0), ()) H := by
  subst hd
  have hml := (moRes_len g).1
  refine W.for_rule 5 (fun t st H => st = (.int .i64 (t : Nat), ()) ∧ Ab.Loc H0 (.src db v0 x0 :: .box b3 [u1, u2, u3, u4] :: .data RPrg [u1, u2, u3, u4] g :: .box b10 (frC (moRes g).2.2.1) :: .data RFS [v6] (moRes g).1 :: L) H) ⟨rfl, h⟩ ?_
  rintro t st H J ht ⟨rfl, h⟩ hJ
  refine Wi.lssC (fun hlt => Wi.tru ?_) fun hge => Wi.fls (pg_j1 (hc.le h.le))
  have ht5 : t < 5 := by omega
  refine Wl.lit0 (ty := 34) RFrac rfl h fun H w h => ?_
  refine W.for_rule (moRes g).1.length (fun i st H => ∃ w x, st = (w, .int .i64 (i : Nat), ()) ∧ x.length = i ∧ (∀ a ∈ x, 0 ≤ a ∧ a ≤ 5) ∧ Ab.Loc H0 (.grow RFrac 34 w (onesF x) :: .src db v0 x0 :: .box b3 [u1, u2, u3, u4] :: .data RPrg [u1, u2, u3, u4] g :: .box b10 (frC (moRes g).2.2.1) :: .data RFS [v6] (moRes g).1 :: L) H) ⟨w, [], rfl, rfl, (fun a ha => by cases ha), h⟩ ?_
  rintro i st H J2 hi ⟨w, x, rfl, hx, hxb, h⟩ hJ2
  refine Wl.len (v := v6) (xs := (moRes g).1) h (Wi.lssC (fun hlt2 => Wi.tru ?_) fun hge2 => Wi.fls ?_)
  · have hil : i < (moRes g).1.length := by omega
    refine Wi.call (fn33 (i := 1) h rfl fun H y h hy hy' => ?_)
    have hy6 := hy' (by decide)
    refine Wi.build (cells := frC (y, 1)) rfl (Wl.pushP (r := RFrac) (x := ((y, 1) : Frac)) (i := 0) rfl rfl rfl (frac_rel ⟨by show I64 y; unfold I64; omega, by show I64 1; unfold I64; decide⟩) h (by simp; omega) fun H w' h => Wi.add (by unfold I64; omega) (hJ2 _ _ hil ⟨w', x ++ [y], rfl, by simp; omega, fun a ha => ?_, ?_⟩))
    · rcases List.mem_append.1 ha with ha | ha
      · exact hxb a ha
      · rw [List.mem_singleton] at ha
        omega
    · have e : onesF (x ++ [y]) = onesF x ++ [(y, 1)] := by simp [onesF]
      rw [e]
      exact h
  · have hil : x.length = (moRes g).1.length := by omega
    obtain ⟨n1, n2, n3, n4, n5⟩ := pg_near h1 hil hxb
    have h := h.asData (i := 0) rfl
    have h : Ab.Loc H0 (.data RFS [w] (onesF x) :: .src db v0 x0 :: .box b3 [u1, u2, u3, u4] :: .data RPrg [u1, u2, u3, u4] g :: .box b10 (frC (moRes g).2.2.1) :: .data RFS [v6] (moRes g).1 :: L) H := h
    have hol : (onesF x).length ≤ 1048576 := by rw [List.length_map]; omega
    refine Wl.getA (b := b3) h rfl (Wi.call (fn30 (h.rd (cs := [u1, u2, u3, u4]) (x := g)) (h.rd (cs := [w]) (x := onesF x)) hg.w hol fun H l => ?_))
    have h := h.to l
    simp only [gw]
    refine Wl.getA (b := b3) h rfl (Wi.call (fn21 (h.rd (cs := [u1, u2, u3, u4]) (x := g)) (h.rd (cs := [w]) (x := onesF x)) hg.w hol fun H l => ?_))
    have h := h.to l
    simp only [gw]
    refine Wl.new h fun H b109 h => Wl.putA (b := b109) (i := 0) h rfl rfl rfl fun H h => ?_
    refine Wi.neqC (fun q => absurd n1 q) fun _ => ?_
    simp only [gw]
    refine Wi.neqC (fun q => absurd n2 q) fun _ => ?_
    simp only [gw]
    refine Wl.getA (b := b109) h rfl (Wl.getA (b := b10) h rfl (Wi.call (fn22 n3 n4 fun H l => ?_)))
    have h := h.to l
    simp only [gw]
    refine Wi.neqC (fun q => absurd rfl q) fun _ => ?_
    have hI : I64 ((t : Int) + 1) := by unfold I64; omega
    cases hin : (plRes g (onesF x)).1 with
    | false =>
      simp only [gw]
      exact Wi.add hI (hJ _ _ ht5 ⟨rfl, h.tl.tl⟩)
    | true =>
      simp only [gw]
      refine Wi.lssC (fun q => absurd q (n5 hin)) fun _ => ?_
      simp only [gw]
      exact Wi.add hI (hJ _ _ ht5 ⟨rfl, h.tl.tl⟩)

/-- The tests of a least value: none fails. -/
theorem pg_chk {K : Post} {H0 H : Heap} {L : List (Atom H0.next)} {b68 b10 : Nat} {g : Prg} (h : Ab.Loc H0 (.box b68 (frC (vaRes g (moRes g).1).1) :: .box b10 (frC (moRes g).2.2.1) :: L) H) (h1 : (moRes g).2.2.2 = 0) (hK : K (.bool false) H) :
    W.bin .eql (.int .i64 (plRes g (moRes g).1).2) (.int .i64 0) H fun v69 H =>
     W.guarded v69 true (fun H k => k (.bool (plRes g (moRes g).1).1) H) H fun v70 H =>
     W.guarded v69 true (fun H k => W.un .not v70 H k) H fun v71 H =>
     W.pick v69 v71 (.bool false) H fun v72 H =>
     W.guarded v72 false (fun H k => k (.int .i64 (stRes g (moRes g).1 (moRes g).2.1).2) H) H fun v73 H =>
     W.guarded v72 false (fun H k => W.bin .eql v73 (.int .i64 0) H k) H fun v74 H =>
     W.guarded v72 false (fun H k => k v74 H) H fun v75 H =>
     W.guarded v75 true (fun H k => k (.bool (stRes g (moRes g).1 (moRes g).2.1).1) H) H fun v76 H =>
     W.guarded v75 true (fun H k => W.un .not v76 H k) H fun v77 H =>
     W.guarded v72 false (fun H k => W.pick v75 v77 (.bool false) H k) H fun v78 H =>
     W.pick v72 (.bool true) v78 H fun v79 H =>
     W.guarded v79 false (fun H k => k (.int .i64 (vaRes g (moRes g).1).2) H) H fun v80 H =>
     W.guarded v79 false (fun H k => W.bin .eql v80 (.int .i64 0) H k) H fun v81 H =>
     W.guarded v79 false (fun H k => k v81 H) H fun v82 H =>
     W.guarded v82 true (fun H k => W.getN 2 (pt b68 0) H k) H fun v83 H =>
     W.guarded v82 true (fun H k => W.getN 2 (pt b10 0) H k) H fun v84 H =>
     W.guarded v82 true (fun H k => W.eqPair .neq v83 v84 H k) H fun v85 H =>
     W.guarded v79 false (fun H k => W.pick v82 v85 (.bool false) H k) H fun v86 H =>
     W.pick v79 (.bool true) v86 H fun v87 H =>
     W.guarded v87 false (fun H k => k (.bool (convRes g).1) H) H fun v88 H =>
     W.guarded v87 false (fun H k => W.un .not v88 H k) H fun v89 H =>
     W.pick v87 (.bool true) v89 H K := by
  have k1 := pg_place h1
  have k2 := pg_stat h1
  have k3 := pg_value h1
  rw [mo_conv h1]
  have i1 := va_i64 g (moRes g).1
  have i2 := mo_i64 g
  refine Wi.eqlC (fun g1 => ?_) fun _ => ?_
  all_goals simp only [gw]
  · rw [k1 g1]
    refine Wi.not ?_
    simp only [gw, Bool.not_true]
    refine Wi.eqlC (fun g2 => ?_) fun _ => ?_
    all_goals simp only [gw]
    · rw [k2 g2]
      refine Wi.not ?_
      simp only [gw, Bool.not_true]
      refine Wi.eqlC (fun g3 => ?_) fun _ => ?_
      all_goals simp only [gw]
      · refine Wl.getA (b := b68) h rfl (Wl.getA (b := b10) h rfl (Wi.nePair i1 i2 ?_))
        rw [decide_eq_true (k3 g3)]
        simp only [gw, Bool.not_true]
        exact hK
      · exact hK
    · refine Wi.eqlC (fun g3 => ?_) fun _ => ?_
      all_goals simp only [gw]
      · refine Wl.getA (b := b68) h rfl (Wl.getA (b := b10) h rfl (Wi.nePair i1 i2 ?_))
        rw [decide_eq_true (k3 g3)]
        simp only [gw, Bool.not_true]
        exact hK
      · exact hK
  · refine Wi.eqlC (fun g2 => ?_) fun _ => ?_
    all_goals simp only [gw]
    · rw [k2 g2]
      refine Wi.not ?_
      simp only [gw, Bool.not_true]
      refine Wi.eqlC (fun g3 => ?_) fun _ => ?_
      all_goals simp only [gw]
      · refine Wl.getA (b := b68) h rfl (Wl.getA (b := b10) h rfl (Wi.nePair i1 i2 ?_))
        rw [decide_eq_true (k3 g3)]
        simp only [gw, Bool.not_true]
        exact hK
      · exact hK
    · refine Wi.eqlC (fun g3 => ?_) fun _ => ?_
      all_goals simp only [gw]
      · refine Wl.getA (b := b68) h rfl (Wl.getA (b := b10) h rfl (Wi.nePair i1 i2 ?_))
        rw [decide_eq_true (k3 g3)]
        simp only [gw, Bool.not_true]
        exact hK
      · exact hK

theorem law4 {H0 : Heap} {bs0 : List Nat} {v0 : Value} {x0 : List Int} (hr0 : RBytes.rel H0 bs0 [v0] x0) : Runs Tryz.prog 4 #[v0] H0 (fun v _ => v = .bool true) := by
  have hc : Has RBytes H0 [v0] x0 := ⟨bs0, hr0⟩
  refine f4.enter ?_
  unfold f4.w
  refine Wi.call (f5.enter (Wl.lenH hc ?_))
  generalize (4096 : Int) = top
  refine Wi.gtrC (fun _ => Wi.tru rfl) fun _ => Wi.fls ?_
  refine Wi.call (fn23 hc fun H u1 u2 u3 u4 g f hg => ?_)
  have h := (Loc.start H0).add f
  have kp := (h.rd (cs := [u1, u2, u3, u4]) (r := RPrg) (x := g)).cell
  refine Wl.new h fun H b3 h => Wl.putA (b := b3) (i := 0) h rfl rfl kp fun H h => ?_
  refine Wl.getA (b := b3) h rfl (Wi.call (fn10 (h.rd (cs := [u1, u2, u3, u4]) (x := g)) hg.w fun H v6 v7 f => ?_))
  have h := h.add2 (c1 := [v6]) (c2 := [v7]) rfl f
  simp only [gw]
  refine Wl.new h fun H b10 h => Wl.putA (b := b10) (i := 0) h rfl rfl rfl fun H h => ?_
  refine Wl.getA (b := b3) h rfl (Wi.call (fn24 (h.rd (cs := [u1, u2, u3, u4]) (x := g)) hg.w fun H v13 v14 f => ?_))
  have h := h.add2 (c1 := [v13]) (c2 := [v14]) rfl f
  simp only [gw]
  refine Wl.new h fun H b17 h => Wl.putA (b := b17) (i := 0) h rfl rfl rfl fun H h => ?_
  refine Wl.getA (b := b3) h rfl (Wi.call (fn25 (h.rd (cs := [u1, u2, u3, u4]) (x := g)) hg.w fun H l => ?_))
  have h := h.to l
  simp only [gw]
  refine Wl.getA (b := b3) h rfl (Wi.call (fn26 (h.rd (cs := [u1, u2, u3, u4]) (x := g)) hg.w fun H l => ?_))
  have h := h.to l
  simp only [gw]
  have h : Ab.Loc H0 [.box b17 (frC (moRes g).2.2.1), .data RFS [v13] (moRes g).1, .data RFS [v14] (moRes g).2.1, .box b10 (frC (moRes g).2.2.1), .data RFS [v6] (moRes g).1, .data RFS [v7] (moRes g).2.1, .box b3 [u1, u2, u3, u4], .data RPrg [u1, u2, u3, u4] g] H := h
  refine Wi.neqC (fun q => absurd rfl q) fun _ => ?_
  simp only [gw]
  refine Wi.callQ (fn27 (h.rd (cs := [v6]) (x := (moRes g).1)) (h.rd (cs := [v13]) (x := (moRes g).1)) ⟨.refl _, ?_⟩)
  rw [decide_eq_true rfl]
  simp only [gw]
  refine Wi.callQ (fn27 (h.rd (cs := [v7]) (x := (moRes g).2.1)) (h.rd (cs := [v14]) (x := (moRes g).2.1)) ⟨.refl _, ?_⟩)
  rw [decide_eq_true rfl]
  simp only [gw]
  refine Wl.getA (b := b10) h rfl (Wl.getA (b := b17) h rfl (Wi.nePair (mo_i64 g) (mo_i64 g) ?_))
  rw [decide_eq_true rfl]
  simp only [gw, Bool.not_true]
  refine Wi.neqC (fun q => absurd rfl q) fun _ => ?_
  simp only [gw]
  refine Wi.neqBool ?_
  simp only [gw, beq_self_eq_true, Bool.not_true]
  refine Wl.getA (b := b3) h rfl (Wi.callQ (fn28 (h.rd (cs := [u1, u2, u3, u4]) (x := g)) hg.w fun H t1 l ht1 => ⟨l, ?_⟩))
  have h := h.to l
  refine Wl.getA (b := b3) h rfl (Wi.callQ (fn29 (h.rd (cs := [u1, u2, u3, u4]) (x := g)) hg.w fun H t2 l ht2 => ⟨l, ?_⟩))
  have h := h.to l
  have et : t1 = t2 := by rw [Bool.eq_iff_iff]; exact ht1.trans ht2.symm
  subst et
  refine Wi.neqBool ?_
  simp only [gw, beq_self_eq_true, Bool.not_true]
  have h := (((h.cut 0).cut 0).cut 0)
  have h : Ab.Loc H0 [.box b10 (frC (moRes g).2.2.1), .data RFS [v6] (moRes g).1, .data RFS [v7] (moRes g).2.1, .box b3 [u1, u2, u3, u4], .data RPrg [u1, u2, u3, u4] g] H := h
  refine Wi.eqlC (fun h1 => Wi.tru ?_) fun _ => Wi.fls (pg_j1 (hc.le h.le))
  have hml := moRes_len g
  refine Wl.getA (b := b3) h rfl (Wi.call (fn30 (h.rd (cs := [u1, u2, u3, u4]) (x := g)) (h.rd (cs := [v6]) (x := (moRes g).1)) hg.w (by omega) fun H l => ?_))
  have h := h.to l
  simp only [gw]
  refine Wl.getA (b := b3) h rfl (Wi.call (fn31 (h.rd (cs := [u1, u2, u3, u4]) (x := g)) (h.rd (cs := [v6]) (x := (moRes g).1)) (h.rd (cs := [v7]) (x := (moRes g).2.1)) hg.w (by omega) (by omega) fun H l => ?_))
  have h := h.to l
  simp only [gw]
  refine Wl.getA (b := b3) h rfl (Wi.call (fn21 (h.rd (cs := [u1, u2, u3, u4]) (x := g)) (h.rd (cs := [v6]) (x := (moRes g).1)) hg.w (by omega) fun H l => ?_))
  have h := h.to l
  simp only [gw]
  refine Wl.new h fun H b68 h => Wl.putA (b := b68) (i := 0) h rfl rfl rfl fun H h => ?_
  have h : Ab.Loc H0 [.box b68 (frC (vaRes g (moRes g).1).1), .box b10 (frC (moRes g).2.2.1), .data RFS [v6] (moRes g).1, .data RFS [v7] (moRes g).2.1, .box b3 [u1, u2, u3, u4], .data RPrg [u1, u2, u3, u4] g] H := h
  have loop : ∀ H, Ab.Loc H0 [.box b68 (frC (vaRes g (moRes g).1).1), .box b10 (frC (moRes g).2.2.1), .data RFS [v6] (moRes g).1, .data RFS [v7] (moRes g).2.1, .box b3 [u1, u2, u3, u4], .data RPrg [u1, u2, u3, u4] g] H →
      W.call Tryz.prog (.func (.func 32) #[] #[]) #[v0, .int .u64 47] H fun v91 H => W.loop (S := St [23]) (fun I1 s H => f4.l1 qTp v6 v91 (pt b3 0) (pt b10 0) (.int .i64 (moRes g).2.2.2) (.bool (convRes g).1) v0 I1 s.1 H) ((.int .i64 0), ()) H := fun H h => by
    refine Wi.call (fn32 hc h fun H db h => ?_)
    have h : Ab.Loc H0 [.src db v0 x0, .box b68 (frC (vaRes g (moRes g).1).1), .box b10 (frC (moRes g).2.2.1), .data RFS [v6] (moRes g).1, .data RFS [v7] (moRes g).2.1, .box b3 [u1, u2, u3, u4], .data RPrg [u1, u2, u3, u4] g] H := h
    have h := (h.cut 1).cut 3
    have h : Ab.Loc H0 [.src db v0 x0, .box b10 (frC (moRes g).2.2.1), .data RFS [v6] (moRes g).1, .box b3 [u1, u2, u3, u4], .data RPrg [u1, u2, u3, u4] g] H := h
    have h : Ab.Loc H0 [.src db v0 x0, .box b3 [u1, u2, u3, u4], .data RPrg [u1, u2, u3, u4] g, .box b10 (frC (moRes g).2.2.1), .data RFS [v6] (moRes g).1] H := ((h.front 4 rfl).front 4 rfl).front 2 rfl
    exact pg_loop rfl hg hc h1 h
  refine pg_chk h h1 ?_
  exact Wi.fls (loop _ h)

end Go.Proofs.YtdchibdcfdbcpaaGreat
