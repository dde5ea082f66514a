/- The law FnProblems answers true on any abstract heap that holds its code and what the library's variables hold at the start. No condition but these. -/
import Derived.Test.YtgdiebnokgnniaaGreatDoorGZP
import Derived.Test.YtgdiebnokgnniaaGreatDoorGDS
import Derived.Test.YtgdiebnokgnniaaGreatDoorDW1
import Derived.Test.YtgdiebnokgnniaaGreatDoorTXE
import Derived.Test.YtgdiebnokgnniaaGreatDoorTXR
import Derived.Test.YtgdiebnokgnniaaGreatDoorTXJ
import Derived.Test.YtgdiebnokgnniaaGreatDoorE2
import Derived.Test.YtgdiebnokgnniaaGreatDoorE3
import Derived.Test.YtgdiebnokgnniaaGreatDoorW5
namespace Go.Proofs.YtgdiebnokgnniaaGreatDoor
open Go.Ab

/- loop.example/g01343/laws.FnProblems -/
def f3.j1 (Q : Post) (i_15 : Value) (v52 : Value) (I1 : St [13, 14, 15] → Heap → Prop) (z_13' : Value) (H : Heap) : Prop :=
  W.bin .add i_15 (.int .i64 1) H fun v61 H =>
  I1 (z_13', v52, v61, ()) H
def f3.j4 (Q : Post) (code_0 : Value) (H : Heap) : Prop :=
  W.call Tryz.prog (.func (.func 21) #[] #[]) #[code_0] H fun v173 H =>
  W.extract 0 v173 H fun v174 H =>
  W.extract 1 v173 H fun v175 H =>
  W.extract 2 v173 H fun v176 H =>
  W.new [(.slice none 0 0), (.slice none 0 0)] 27 H fun v177 H =>
  W.putN 2 v177 v174 H fun _ H =>
  W.getN 2 v177 H fun v178 H =>
  W.call Tryz.prog (.func (.func 22) #[] #[]) #[v178, v175, v176] H fun v179 H =>
  W.extract 0 v179 H fun v180 H =>
  W.extract 1 v179 H fun v181 H =>
  W.new [(.slice none 0 0), (.slice none 0 0)] 27 H fun v182 H =>
  W.putN 2 v182 v180 H fun _ H =>
  W.getN 2 v177 H fun v183 H =>
  W.call Tryz.prog (.func (.func 23) #[] #[]) #[v183, v175, v176] H fun v184 H =>
  W.extract 0 v184 H fun v185 H =>
  W.extract 1 v184 H fun v186 H =>
  W.new [(.slice none 0 0), (.slice none 0 0)] 27 H fun v187 H =>
  W.putN 2 v187 v185 H fun _ H =>
  W.call Tryz.prog (.func (.func 24) #[] #[]) #[code_0] H fun v188 H =>
  W.extract 0 v188 H fun v189 H =>
  W.extract 1 v188 H fun v190 H =>
  W.new [(.slice none 0 0), (.slice none 0 0)] 27 H fun v191 H =>
  W.putN 2 v191 v189 H fun _ H =>
  W.getN 2 v191 H fun v192 H =>
  W.call Tryz.prog (.func (.func 13) #[] #[]) #[v192, v190] H fun v193 H =>
  W.extract 0 v193 H fun v194 H =>
  W.extract 1 v193 H fun v195 H =>
  W.getN 2 v191 H fun v196 H =>
  W.call Tryz.prog (.func (.func 25) #[] #[]) #[v196, v190] H fun v197 H =>
  W.extract 0 v197 H fun v198 H =>
  W.extract 1 v197 H fun v199 H =>
  W.call Tryz.prog (.func (.func 26) #[] #[]) #[code_0] H fun v200 H =>
  W.extract 0 v200 H fun v201 H =>
  W.extract 1 v200 H fun v202 H =>
  W.new [(.slice none 0 0), (.slice none 0 0)] 27 H fun v203 H =>
  W.putN 2 v203 v201 H fun _ H =>
  W.getN 2 v203 H fun v204 H =>
  W.call Tryz.prog (.func (.func 14) #[] #[]) #[v204, v202] H fun v205 H =>
  W.extract 0 v205 H fun v206 H =>
  W.extract 1 v205 H fun v207 H =>
  W.getN 2 v203 H fun v208 H =>
  W.call Tryz.prog (.func (.func 27) #[] #[]) #[v208, v202] H fun v209 H =>
  W.extract 0 v209 H fun v210 H =>
  W.extract 1 v209 H fun v211 H =>
  W.call Tryz.prog (.func (.func 28) #[] #[]) #[code_0] H fun v212 H =>
  W.extract 0 v212 H fun v213 H =>
  W.extract 1 v212 H fun v214 H =>
  W.new [(.slice none 0 0), (.slice none 0 0)] 27 H fun v215 H =>
  W.putN 2 v215 v213 H fun _ H =>
  W.getN 2 v215 H fun v216 H =>
  W.call Tryz.prog (.func (.func 29) #[] #[]) #[v216, v214] H fun v217 H =>
  W.extract 0 v217 H fun v218 H =>
  W.extract 1 v217 H fun v219 H =>
  W.getN 2 v215 H fun v220 H =>
  W.call Tryz.prog (.func (.func 30) #[] #[]) #[v220, v214] H fun v221 H =>
  W.extract 0 v221 H fun v222 H =>
  W.extract 1 v221 H fun v223 H =>
  W.call Tryz.prog (.func (.func 31) #[] #[]) #[code_0] H fun v224 H =>
  W.call Tryz.prog (.func (.func 16) #[] #[]) #[v224] H fun v225 H =>
  W.extract 0 v225 H fun v226 H =>
  W.extract 1 v225 H fun v227 H =>
  W.new [(.slice none 0 0), (.slice none 0 0)] 27 H fun v228 H =>
  W.putN 2 v228 v226 H fun _ H =>
  W.call Tryz.prog (.func (.func 32) #[] #[]) #[v224] H fun v229 H =>
  W.extract 0 v229 H fun v230 H =>
  W.extract 1 v229 H fun v231 H =>
  W.new [(.slice none 0 0), (.slice none 0 0)] 27 H fun v232 H =>
  W.putN 2 v232 v230 H fun _ H =>
  W.bin .eql v181 v186 H fun v233 H =>
  W.guarded v233 true (fun H k => W.getN 2 v182 H k) H fun v234 H =>
  W.guarded v233 true (fun H k => W.getN 2 v187 H k) H fun v235 H =>
  W.guarded v233 true (fun H k => W.call Tryz.prog (.func (.func 17) #[] #[]) #[v234, v235] H k) H fun v236 H =>
  W.pick v233 v236 (.bool false) H fun v237 H =>
  W.guarded v237 true (fun H k => k v195 H) H fun v238 H =>
  W.guarded v237 true (fun H k => k v199 H) H fun v239 H =>
  W.guarded v237 true (fun H k => W.bin .eql v238 v239 H k) H fun v240 H =>
  W.pick v237 v240 (.bool false) H fun v241 H =>
  W.guarded v241 true (fun H k => k v194 H) H fun v242 H =>
  W.guarded v241 true (fun H k => k v198 H) H fun v243 H =>
  W.guarded v241 true (fun H k => W.call Tryz.prog (.func (.func 10) #[] #[]) #[v242, v243] H k) H fun v244 H =>
  W.pick v241 v244 (.bool false) H fun v245 H =>
  W.guarded v245 true (fun H k => k v207 H) H fun v246 H =>
  W.guarded v245 true (fun H k => k v211 H) H fun v247 H =>
  W.guarded v245 true (fun H k => W.bin .eql v246 v247 H k) H fun v248 H =>
  W.pick v245 v248 (.bool false) H fun v249 H =>
  W.guarded v249 true (fun H k => k v206 H) H fun v250 H =>
  W.guarded v249 true (fun H k => k v210 H) H fun v251 H =>
  W.guarded v249 true (fun H k => W.eqBool .eql v250 v251 H k) H fun v252 H =>
  W.pick v249 v252 (.bool false) H fun v253 H =>
  W.guarded v253 true (fun H k => k v219 H) H fun v254 H =>
  W.guarded v253 true (fun H k => k v223 H) H fun v255 H =>
  W.guarded v253 true (fun H k => W.bin .eql v254 v255 H k) H fun v256 H =>
  W.pick v253 v256 (.bool false) H fun v257 H =>
  W.guarded v257 true (fun H k => k v218 H) H fun v258 H =>
  W.guarded v257 true (fun H k => k v222 H) H fun v259 H =>
  W.guarded v257 true (fun H k => W.call Tryz.prog (.func (.func 33) #[] #[]) #[v258, v259] H k) H fun v260 H =>
  W.pick v257 v260 (.bool false) H fun v261 H =>
  W.guarded v261 true (fun H k => k v227 H) H fun v262 H =>
  W.guarded v261 true (fun H k => k v231 H) H fun v263 H =>
  W.guarded v261 true (fun H k => W.bin .eql v262 v263 H k) H fun v264 H =>
  W.pick v261 v264 (.bool false) H fun v265 H =>
  W.guarded v265 true (fun H k => W.getN 2 v228 H k) H fun v266 H =>
  W.guarded v265 true (fun H k => W.getN 2 v232 H k) H fun v267 H =>
  W.guarded v265 true (fun H k => W.call Tryz.prog (.func (.func 17) #[] #[]) #[v266, v267] H k) H fun v268 H =>
  W.pick v265 v268 (.bool false) H fun v269 H =>
  Q v269 H
def f3.j3 (Q : Post) (code_0 : Value) (H : Heap) : Prop :=
  W.call Tryz.prog (.func (.func 18) #[] #[]) #[code_0] H fun v132 H =>
  W.extract 0 v132 H fun v133 H =>
  W.extract 1 v132 H fun v134 H =>
  W.new [(.slice none 0 0), (.slice none 0 0)] 27 H fun v135 H =>
  W.putN 2 v135 v133 H fun _ H =>
  W.getN 2 v135 H fun v136 H =>
  W.call Tryz.prog (.func (.func 19) #[] #[]) #[v136, v134] H fun v137 H =>
  W.extract 0 v137 H fun v138 H =>
  W.extract 1 v137 H fun v139 H =>
  W.new [(.slice none 0 0), (.slice none 0 0)] 27 H fun v140 H =>
  W.putN 2 v140 v138 H fun _ H =>
  W.getN 2 v135 H fun v141 H =>
  W.call Tryz.prog (.func (.func 20) #[] #[]) #[v141, v134] H fun v142 H =>
  W.extract 0 v142 H fun v143 H =>
  W.extract 1 v142 H fun v144 H =>
  W.new [(.slice none 0 0), (.slice none 0 0)] 27 H fun v145 H =>
  W.putN 2 v145 v143 H fun _ H =>
  W.bin .neq v139 v144 H fun v146 H =>
  W.guarded v146 false (fun H k => W.getN 2 v140 H k) H fun v147 H =>
  W.guarded v146 false (fun H k => W.getN 2 v145 H k) H fun v148 H =>
  W.guarded v146 false (fun H k => W.call Tryz.prog (.func (.func 17) #[] #[]) #[v147, v148] H k) H fun v149 H =>
  W.guarded v146 false (fun H k => W.un .not v149 H k) H fun v150 H =>
  W.pick v146 (.bool true) v150 H fun v151 H =>
  W.cond v151 H
  (fun H => Q (.bool false) H)
  (fun H => W.bin .eql v139 (.int .i64 0) H fun v152 H =>
   W.cond v152 H
   (fun H => W.len v134 H fun v153 H =>
    W.conv .u64 v153 H fun v154 H =>
    W.bin .shl (.int .i64 1) v154 H fun v155 H =>
    W.bin .sub v155 (.int .i64 1) H fun v156 H =>
    W.getN 2 v135 H fun v157 H =>
    W.call Tryz.prog (.func (.func 8) #[] #[]) #[v157, v156] H fun v158 H =>
    W.extract 0 v158 H fun v159 H =>
    W.extract 1 v158 H fun v160 H =>
    W.getN 2 v140 H fun v161 H =>
    W.call Tryz.prog (.func (.func 8) #[] #[]) #[v161, v156] H fun v162 H =>
    W.extract 0 v162 H fun v163 H =>
    W.extract 1 v162 H fun v164 H =>
    W.bin .neq v160 (.int .i64 0) H fun v165 H =>
    W.guarded v165 false (fun H k => k v164 H) H fun v166 H =>
    W.guarded v165 false (fun H k => W.bin .neq v166 (.int .i64 0) H k) H fun v167 H =>
    W.pick v165 (.bool true) v167 H fun v168 H =>
    W.guarded v168 false (fun H k => k v159 H) H fun v169 H =>
    W.guarded v168 false (fun H k => k v163 H) H fun v170 H =>
    W.guarded v168 false (fun H k => W.bin .neq v169 v170 H k) H fun v171 H =>
    W.pick v168 (.bool true) v171 H fun v172 H =>
    W.cond v172 H
    (fun H => Q (.bool false) H)
    (fun H => f3.j4 Q code_0 H))
   (fun H => f3.j4 Q code_0 H))
def f3.j2 (Q : Post) (v16 : Value) (v72 : Value) (v71 : Value) (feasible_14 : Value) (v5 : Value) (code_0 : Value) (H : Heap) : Prop :=
  W.bin .eql v16 (.int .i64 0) H fun v106 H =>
  W.guarded v106 false (fun H k => k v72 H) H fun v107 H =>
  W.guarded v106 false (fun H k => W.bin .eql v107 (.int .i64 0) H k) H fun v108 H =>
  W.guarded v106 false (fun H k => k v108 H) H fun v109 H =>
  W.guarded v109 true (fun H k => k v71 H) H fun v110 H =>
  W.guarded v109 true (fun H k => k feasible_14 H) H fun v111 H =>
  W.guarded v109 true (fun H k => W.eqBool .neq v110 v111 H k) H fun v112 H =>
  W.guarded v106 false (fun H k => W.pick v109 v112 (.bool false) H k) H fun v113 H =>
  W.pick v106 (.bool true) v113 H fun v114 H =>
  W.cond v114 H
  (fun H => Q (.bool false) H)
  (fun H => W.getN 2 v5 H fun v115 H =>
   W.call Tryz.prog (.func (.func 15) #[] #[]) #[v115] H fun v116 H =>
   W.extract 0 v116 H fun v117 H =>
   W.extract 1 v116 H fun v118 H =>
   W.call Tryz.prog (.func (.func 16) #[] #[]) #[v117] H fun v119 H =>
   W.extract 0 v119 H fun v120 H =>
   W.extract 1 v119 H fun v121 H =>
   W.new [(.slice none 0 0), (.slice none 0 0)] 27 H fun v122 H =>
   W.putN 2 v122 v120 H fun _ H =>
   W.bin .neq v118 (.int .i64 0) H fun v123 H =>
   W.guarded v123 false (fun H k => k v121 H) H fun v124 H =>
   W.guarded v123 false (fun H k => W.bin .neq v124 (.int .i64 0) H k) H fun v125 H =>
   W.pick v123 (.bool true) v125 H fun v126 H =>
   W.guarded v126 false (fun H k => W.getN 2 v122 H k) H fun v127 H =>
   W.guarded v126 false (fun H k => W.getN 2 v5 H k) H fun v128 H =>
   W.guarded v126 false (fun H k => W.call Tryz.prog (.func (.func 17) #[] #[]) #[v127, v128] H k) H fun v129 H =>
   W.guarded v126 false (fun H k => W.un .not v129 H k) H fun v130 H =>
   W.pick v126 (.bool true) v130 H fun v131 H =>
   W.cond v131 H
   (fun H => Q (.bool false) H)
   (fun H => f3.j3 Q code_0 H))
def f3.l2 (Q : Post) (v67 : Value) (v4 : Value) (v8 : Value) (v16 : Value) (v72 : Value) (v71 : Value) (feasible_14 : Value) (v5 : Value) (code_0 : Value) (I2 : St [20] → Heap → Prop) (i_20 : Value) (H : Heap) : Prop :=
  W.len v67 H fun v74 H =>
  W.bin .lss i_20 v74 H fun v75 H =>
  W.cond v75 H
  (fun H => W.conv .u64 i_20 H fun v76 H =>
   W.bin .shr v4 v76 H fun v77 H =>
   W.bin .and v77 (.int .i64 1) H fun v78 H =>
   W.bin .eql v78 (.int .i64 1) H fun v79 H =>
   W.guarded v79 true (fun H k => k v67 H) H fun v80 H =>
   W.guarded v79 true (fun H k => k i_20 H) H fun v81 H =>
   W.guarded v79 true (fun H k => W.indexAddr 2 v80 v81 H k) H fun v82 H =>
   W.guarded v79 true (fun H k => W.fieldAddr 0 v82 H k) H fun v83 H =>
   W.guarded v79 true (fun H k => W.get v83 H k) H fun v84 H =>
   W.guarded v79 true (fun H k => W.bin .neq v84 (.int .i64 0) H k) H fun v85 H =>
   W.pick v79 v85 (.bool false) H fun v86 H =>
   W.guarded v86 false (fun H k => k v4 H) H fun v87 H =>
   W.guarded v86 false (fun H k => k i_20 H) H fun v88 H =>
   W.guarded v86 false (fun H k => W.conv .u64 v88 H k) H fun v89 H =>
   W.guarded v86 false (fun H k => W.bin .shr v87 v89 H k) H fun v90 H =>
   W.guarded v86 false (fun H k => W.bin .and v90 (.int .i64 1) H k) H fun v91 H =>
   W.guarded v86 false (fun H k => W.bin .eql v91 (.int .i64 0) H k) H fun v92 H =>
   W.guarded v86 false (fun H k => k v92 H) H fun v93 H =>
   W.guarded v93 true (fun H k => k v67 H) H fun v94 H =>
   W.guarded v93 true (fun H k => k i_20 H) H fun v95 H =>
   W.guarded v93 true (fun H k => W.indexAddr 2 v94 v95 H k) H fun v96 H =>
   W.guarded v93 true (fun H k => W.getN 2 v96 H k) H fun v97 H =>
   W.guarded v93 true (fun H k => k v8 H) H fun v98 H =>
   W.guarded v93 true (fun H k => k i_20 H) H fun v99 H =>
   W.guarded v93 true (fun H k => W.indexAddr 2 v98 v99 H k) H fun v100 H =>
   W.guarded v93 true (fun H k => W.getN 2 v100 H k) H fun v101 H =>
   W.guarded v93 true (fun H k => W.eqPair .neq v97 v101 H k) H fun v102 H =>
   W.guarded v86 false (fun H k => W.pick v93 v102 (.bool false) H k) H fun v103 H =>
   W.pick v86 (.bool true) v103 H fun v104 H =>
   W.cond v104 H
   (fun H => Q (.bool false) H)
   (fun H => W.bin .add i_20 (.int .i64 1) H fun v105 H =>
    I2 (v105, ()) H))
  (fun H => f3.j2 Q v16 v72 v71 feasible_14 v5 code_0 H)
def f3.l1 (Q : Post) (v8 : Value) (v4 : Value) (v5 : Value) (v16 : Value) (code_0 : Value) (I1 : St [13, 14, 15] → Heap → Prop) (z_13 : Value) (feasible_14 : Value) (i_15 : Value) (H : Heap) : Prop :=
  W.len v8 H fun v44 H =>
  W.bin .lss i_15 v44 H fun v45 H =>
  W.cond v45 H
  (fun H => W.guarded feasible_14 true (fun H k => k v8 H) H fun v46 H =>
   W.guarded feasible_14 true (fun H k => k i_15 H) H fun v47 H =>
   W.guarded feasible_14 true (fun H k => W.indexAddr 2 v46 v47 H k) H fun v48 H =>
   W.guarded feasible_14 true (fun H k => W.fieldAddr 0 v48 H k) H fun v49 H =>
   W.guarded feasible_14 true (fun H k => W.get v49 H k) H fun v50 H =>
   W.guarded feasible_14 true (fun H k => W.bin .geq v50 (.int .i64 0) H k) H fun v51 H =>
   W.pick feasible_14 v51 (.bool false) H fun v52 H =>
   W.conv .u64 i_15 H fun v53 H =>
   W.bin .shr v4 v53 H fun v54 H =>
   W.bin .and v54 (.int .i64 1) H fun v55 H =>
   W.bin .eql v55 (.int .i64 1) H fun v56 H =>
   W.cond v56 H
   (fun H => W.indexAddr 2 v8 i_15 H fun v57 H =>
    W.getN 2 v57 H fun v58 H =>
    W.lit 1 [(.int .i64 0), (.int .i64 0)] 38 [(0, 2, v58)] H fun v59 H =>
    W.append 2 38 z_13 v59 H fun v60 H =>
    f3.j1 Q i_15 v52 I1 v60 H)
   (fun H => W.build [(.int .i64 0), (.int .i64 0)] [(0, 1, (.int .i64 0)), (1, 1, (.int .i64 1))] H fun v62 H =>
    W.lit 1 [(.int .i64 0), (.int .i64 0)] 38 [(0, 2, v62)] H fun v63 H =>
    W.append 2 38 z_13 v63 H fun v64 H =>
    f3.j1 Q i_15 v52 I1 v64 H))
  (fun H => W.getN 2 v5 H fun v65 H =>
   W.call Tryz.prog (.func (.func 13) #[] #[]) #[v65, z_13] H fun v66 H =>
   W.extract 0 v66 H fun v67 H =>
   W.extract 1 v66 H fun v68 H =>
   W.getN 2 v5 H fun v69 H =>
   W.call Tryz.prog (.func (.func 14) #[] #[]) #[v69, z_13] H fun v70 H =>
   W.extract 0 v70 H fun v71 H =>
   W.extract 1 v70 H fun v72 H =>
   W.bin .eql v68 (.int .i64 0) H fun v73 H =>
   W.cond v73 H
   (fun H => W.loop (S := St [20]) (fun I2 s H => f3.l2 Q v67 v4 v8 v16 v72 v71 feasible_14 v5 code_0 I2 s.1 H) ((.int .i64 0), ()) H)
   (fun H => f3.j2 Q v16 v72 v71 feasible_14 v5 code_0 H))
def f3.w (Q : Post) (code_0 : Value) (H : Heap) : Prop :=
  W.call Tryz.prog (.func (.func 4) #[] #[]) #[code_0] H fun v1 H =>
  W.cond v1 H
  (fun H => Q (.bool true) H)
  (fun H => W.call Tryz.prog (.func (.func 5) #[] #[]) #[code_0] H fun v2 H =>
   W.extract 0 v2 H fun v3 H =>
   W.extract 1 v2 H fun v4 H =>
   W.new [(.slice none 0 0), (.slice none 0 0)] 27 H fun v5 H =>
   W.putN 2 v5 v3 H fun _ H =>
   W.getN 2 v5 H fun v6 H =>
   W.call Tryz.prog (.func (.func 6) #[] #[]) #[v6, v4] H fun v7 H =>
   W.extract 0 v7 H fun v8 H =>
   W.extract 1 v7 H fun v9 H =>
   W.getN 2 v5 H fun v10 H =>
   W.call Tryz.prog (.func (.func 7) #[] #[]) #[v10, v4] H fun v11 H =>
   W.extract 0 v11 H fun v12 H =>
   W.extract 1 v11 H fun v13 H =>
   W.getN 2 v5 H fun v14 H =>
   W.call Tryz.prog (.func (.func 8) #[] #[]) #[v14, v4] H fun v15 H =>
   W.extract 0 v15 H fun v16 H =>
   W.extract 1 v15 H fun v17 H =>
   W.getN 2 v5 H fun v18 H =>
   W.call Tryz.prog (.func (.func 9) #[] #[]) #[v18, v4] H fun v19 H =>
   W.extract 0 v19 H fun v20 H =>
   W.extract 1 v19 H fun v21 H =>
   W.bin .neq v9 v13 H fun v22 H =>
   W.guarded v22 false (fun H k => k v8 H) H fun v23 H =>
   W.guarded v22 false (fun H k => k v12 H) H fun v24 H =>
   W.guarded v22 false (fun H k => W.callQ Tryz.prog (.func (.func 10) #[] #[]) #[v23, v24] H k) H fun v25 H =>
   W.guarded v22 false (fun H k => W.un .not v25 H k) H fun v26 H =>
   W.pick v22 (.bool true) v26 H fun v27 H =>
   W.guarded v27 false (fun H k => k v17 H) H fun v28 H =>
   W.guarded v27 false (fun H k => k v21 H) H fun v29 H =>
   W.guarded v27 false (fun H k => W.bin .neq v28 v29 H k) H fun v30 H =>
   W.pick v27 (.bool true) v30 H fun v31 H =>
   W.guarded v31 false (fun H k => k v16 H) H fun v32 H =>
   W.guarded v31 false (fun H k => k v20 H) H fun v33 H =>
   W.guarded v31 false (fun H k => W.bin .neq v32 v33 H k) H fun v34 H =>
   W.pick v31 (.bool true) v34 H fun v35 H =>
   W.guarded v35 false (fun H k => W.getN 2 v5 H k) H fun v36 H =>
   W.guarded v35 false (fun H k => W.callQ Tryz.prog (.func (.func 11) #[] #[]) #[v36] H k) H fun v37 H =>
   W.guarded v35 false (fun H k => W.getN 2 v5 H k) H fun v38 H =>
   W.guarded v35 false (fun H k => W.callQ Tryz.prog (.func (.func 12) #[] #[]) #[v38] H k) H fun v39 H =>
   W.guarded v35 false (fun H k => W.eqBool .neq v37 v39 H k) H fun v40 H =>
   W.pick v35 (.bool true) v40 H fun v41 H =>
   W.cond v41 H
   (fun H => Q (.bool false) H)
   (fun H => W.bin .eql v9 (.int .i64 0) H fun v42 H =>
    W.cond v42 H
    (fun H => W.lit 0 [(.int .i64 0), (.int .i64 0)] 38 [] H fun v43 H =>
     W.loop (S := St [13, 14, 15]) (fun I1 s H => f3.l1 Q v8 v4 v5 v16 code_0 I1 s.1 s.2.1 s.2.2.1 H) (v43, (.bool true), (.int .i64 0), ()) H)
    (fun H => f3.j3 Q code_0 H)))
theorem f3.enter {Q : Post} {code_0 : Value} {H : Heap} (h : f3.w Q code_0 H) : Runs Tryz.prog 3 #[code_0] H Q :=
  fn_enter (ann := [(13, [13, 14, 15]), (23, [20])]) (by kernel_rfl) Tryz.func3 rfl (by kernel_rfl) h (by kernel_rfl)


theorem text_small {H : Heap} {cs : List Value} {p : Prob} (hp : isProb p = true) (hr : Has RProblem H cs p) : (textP p).length ≤ 1000 := by
  obtain ⟨_, _, e, g1, g2⟩ := hasProb hr
  obtain ⟨_, h1, h2, h3, h4, h5⟩ := isProb_rows hp
  have e1 := join_len (c := 59) (B := 110) (ps := p.1.map (joinI 44)) fun t ht => by
    obtain ⟨r, hrm, rfl⟩ := List.mem_map.1 ht
    have h1 := joinI_len (c := 44) (l := r) (has_i64s g1 r hrm)
    have h2 := (h4 r hrm).1
    omega
  rw [List.length_map] at e1
  have e1 : (rowsT p.1).length ≤ p.1.length * (110 + 1) := e1
  have e2 := joinI_len (c := 44) (l := p.2) g2.i64
  unfold textP
  rw [List.length_append, List.length_cons]
  omega

theorem fp_j4 {H0 : Heap} {vc : Value} {code : List Int} (hc : Has RBytes H0 [vc] code) (hcl : code.length ≤ 4096) (hl : LibOK H0) : f3.j4 (fun v _ => v = .bool true) vc H0 := by
  unfold f3.j4
  -- rows scaled
  refine Wi.call (fn21 hc fun H u1 u2 r i k f hr _ _ => ?_)
  have h := (Loc.start H0).add f
  have kp := (h.rd (cs := [u1, u2]) (r := RProblem)).cell
  simp only [gw]
  refine Wl.new h fun H b1 h => Wl.putA h rfl rfl kp fun H h => Wl.getA (b := b1) h rfl (Wi.call (fn22 (h.rd (cs := [u1, u2])) fun H w1 w2 f => ?_))
  have h := h.add f
  have k1 := (h.rd (cs := [w1, w2]) (r := RProblem)).cell
  simp only [gw]
  refine Wl.new h fun H b2 h => Wl.putA h rfl rfl k1 fun H h => Wl.getA (b := b1) h rfl (Wi.call (fn23 (h.rd (cs := [u1, u2])) fun H y1 y2 f => ?_))
  have h := h.add f
  have k2 := (h.rd (cs := [y1, y2]) (r := RProblem)).cell
  simp only [gw]
  refine Wl.new h fun H b3 h => Wl.putA h rfl rfl k2 fun H h => ?_
  have h : Ab.Loc H0 [.box b3 [y1, y2], .data RProblem [y1, y2] (scRes r i k).1, .box b2 [w1, w2], .data RProblem [w1, w2] (scRes r i k).1, .box b1 [u1, u2], .data RProblem [u1, u2] r] _ := h
  have h := (h.cut 4).cut 4
  have h : Ab.Loc H0 [.box b3 [y1, y2], .data RProblem [y1, y2] (scRes r i k).1, .box b2 [w1, w2], .data RProblem [w1, w2] (scRes r i k).1] _ := h
  generalize scRes r i k = S at *
  -- remainders
  refine Wi.call (fn24 (hc.le h.le) fun H u3 u4 wz u z f hu hz => ?_)
  have h := h.add2 (r := RProblem) (s := RFS) (c1 := [u3, u4]) (c2 := [wz]) rfl f
  have kp := (h.rd (cs := [u3, u4]) (r := RProblem)).cell
  simp only [gw]
  refine Wl.new h fun H b4 h => Wl.putA h rfl rfl kp fun H h => Wl.getA (b := b4) h rfl (Wi.call (fn13 (h.rd (cs := [u3, u4])) (h.rd (cs := [wz])) fun H v1 _ f => ?_))
  have h := h.add f
  simp only [gw]
  refine Wl.getA (b := b4) h rfl (Wi.call (fn25 (h.rd (cs := [u3, u4])) (h.rd (cs := [wz])) fun H v2 _ f => ?_))
  have h := h.add f
  simp only [gw]
  have h : Ab.Loc H0 [.data RFS [v2] (reRes u z).1, .data RFS [v1] (reRes u z).1, .box b4 [u3, u4], .data RProblem [u3, u4] u, .data RFS [wz] z, .box b3 [y1, y2], .data RProblem [y1, y2] S.1, .box b2 [w1, w2], .data RProblem [w1, w2] S.1] _ := h
  have h := ((h.cut 2).cut 2).cut 2
  have h : Ab.Loc H0 [.data RFS [v2] (reRes u z).1, .data RFS [v1] (reRes u z).1, .box b3 [y1, y2], .data RProblem [y1, y2] S.1, .box b2 [w1, w2], .data RProblem [w1, w2] S.1] _ := h
  generalize reRes u z = R at *
  -- solutions
  refine Wi.call (fn26 (hc.le h.le) fun H u5 u6 wx v x f hv hx => ?_)
  have h := h.add2 (r := RProblem) (s := RFS) (c1 := [u5, u6]) (c2 := [wx]) rfl f
  have kp := (h.rd (cs := [u5, u6]) (r := RProblem)).cell
  simp only [gw]
  refine Wl.new h fun H b5 h => Wl.putA h rfl rfl kp fun H h => Wl.getA (b := b5) h rfl (Wi.call (fnR14 (h.rd (cs := [u5, u6])) (h.rd (cs := [wx])) fun H l => ?_))
  have h := h.to l
  simp only [gw]
  refine Wl.getA (b := b5) h rfl (Wi.call (fn27 (h.rd (cs := [u5, u6])) (h.rd (cs := [wx])) fun H l => ?_))
  have h := h.to l
  simp only [gw]
  have h : Ab.Loc H0 [.box b5 [u5, u6], .data RProblem [u5, u6] v, .data RFS [wx] x, .data RFS [v2] R.1, .data RFS [v1] R.1, .box b3 [y1, y2], .data RProblem [y1, y2] S.1, .box b2 [w1, w2], .data RProblem [w1, w2] S.1] _ := h
  have h := ((h.cut 0).cut 0).cut 0
  have h : Ab.Loc H0 [.data RFS [v2] R.1, .data RFS [v1] R.1, .box b3 [y1, y2], .data RProblem [y1, y2] S.1, .box b2 [w1, w2], .data RProblem [w1, w2] S.1] _ := h
  generalize isRes v x = I at *
  -- columns
  refine Wi.call (fn28 (hc.le h.le) fun H u7 u8 t set f ht hs => ?_)
  have h := h.add f
  have kp := (h.rd (cs := [u7, u8]) (r := RProblem)).cell
  simp only [gw]
  refine Wl.new h fun H b6 h => Wl.putA h rfl rfl kp fun H h => Wl.getA (b := b6) h rfl (Wi.call (fn29 (h.rd (cs := [u7, u8])) fun H c1 f => ?_))
  have h := h.add f
  simp only [gw]
  refine Wl.getA (b := b6) h rfl (Wi.call (fn30 (h.rd (cs := [u7, u8])) fun H c2 f => ?_))
  have h := h.add f
  simp only [gw]
  have h : Ab.Loc H0 [.data RSS [c2] (coRes t set).1, .data RSS [c1] (coRes t set).1, .box b6 [u7, u8], .data RProblem [u7, u8] t, .data RFS [v2] R.1, .data RFS [v1] R.1, .box b3 [y1, y2], .data RProblem [y1, y2] S.1, .box b2 [w1, w2], .data RProblem [w1, w2] S.1] _ := h
  have h := (h.cut 2).cut 2
  have h : Ab.Loc H0 [.data RSS [c2] (coRes t set).1, .data RSS [c1] (coRes t set).1, .data RFS [v2] R.1, .data RFS [v1] R.1, .box b3 [y1, y2], .data RProblem [y1, y2] S.1, .box b2 [w1, w2], .data RProblem [w1, w2] S.1] _ := h
  generalize coRes t set = C at *
  -- texts
  refine Wi.call (fn31 (hc.le h.le) hcl fun H line l hline => ?_)
  have h := h.to l
  refine Wi.call (fn16 (hl.le h.le) (by omega) fun H q1 q2 f => ?_)
  have h := h.add f
  have k3 := (h.rd (cs := [q1, q2]) (r := RProblem)).cell
  simp only [gw]
  refine Wl.new h fun H b7 h => Wl.putA h rfl rfl k3 fun H h => Wi.call (fn32 (by omega) fun H q3 q4 f => ?_)
  have h := h.add f
  have k4 := (h.rd (cs := [q3, q4]) (r := RProblem)).cell
  simp only [gw]
  refine Wl.new h fun H b8 h => Wl.putA h rfl rfl k4 fun H h => ?_
  rw [← par_eq] at h ⊢
  generalize parR numI line = T at *
  have h : Ab.Loc H0 [.box b8 [q3, q4], .data RProblem [q3, q4] T.1, .box b7 [q1, q2], .data RProblem [q1, q2] T.1, .data RSS [c2] C.1, .data RSS [c1] C.1, .data RFS [v2] R.1, .data RFS [v1] R.1, .box b3 [y1, y2], .data RProblem [y1, y2] S.1, .box b2 [w1, w2], .data RProblem [w1, w2] S.1] _ := h
  -- all compared
  refine Wi.eqlC (fun _ => ?_) fun g => absurd rfl g
  simp only [gw]
  refine Wl.getA (b := b2) h rfl (Wl.getA (b := b3) h rfl (Wi.call (fn17 (h.rd (cs := [w1, w2])) (h.rd (cs := [y1, y2])) fun H l => ?_)))
  have h := h.to l
  simp only [gw]
  refine Wi.eqlC (fun _ => ?_) fun g => absurd rfl g
  simp only [gw]
  refine Wi.call (fn10 (h.rd (cs := [v1])) (h.rd (cs := [v2])) ?_)
  rw [decide_eq_true rfl]
  simp only [gw]
  refine Wi.eqlC (fun _ => ?_) fun g => absurd rfl g
  simp only [gw]
  refine Wi.eqBool ?_
  rw [beq_self_eq_true]
  simp only [gw]
  refine Wi.eqlC (fun _ => ?_) fun g => absurd rfl g
  simp only [gw]
  refine Wi.call (fn33 (h.rd (cs := [c1])) (h.rd (cs := [c2])) ?_)
  simp only [gw]
  refine Wi.eqlC (fun _ => ?_) fun g => absurd rfl g
  simp only [gw]
  refine Wl.getA (b := b7) h rfl (Wl.getA (b := b8) h rfl (Wi.call (fn17 (h.rd (cs := [q1, q2])) (h.rd (cs := [q3, q4])) fun H l => ?_)))
  simp only [gw]

theorem fp_j3 {H0 : Heap} {vc : Value} {code : List Int} (hc : Has RBytes H0 [vc] code) (hcl : code.length ≤ 4096) (hl : LibOK H0) : f3.j3 (fun v _ => v = .bool true) vc H0 := by
  unfold f3.j3
  refine Wi.call (fn18 hc fun H u1 u2 wl q l f hq hll => ?_)
  have h := (Loc.start H0).add2 (r := RProblem) (s := RS) (c1 := [u1, u2]) (c2 := [wl]) rfl f
  have kp := (h.rd (cs := [u1, u2]) (r := RProblem)).cell
  have hw := hq.w
  simp only [gw]
  refine Wl.new h fun H b1 h => Wl.putA h rfl rfl kp fun H h => Wl.getA (b := b1) h rfl (Wi.call (fn19 (h.rd (cs := [u1, u2])) (h.rd (cs := [wl])) hw (by omega) fun H cs f => ?_))
  obtain ⟨w1, w2, rfl, _, _⟩ := hasProb f.read
  have h := h.add f
  have k1 := (h.rd (cs := [w1, w2]) (r := RProblem)).cell
  simp only [gw]
  refine Wl.new h fun H b2 h => Wl.putA (vs := [w1, w2]) h rfl rfl k1 fun H h => Wl.getA (b := b1) h rfl (Wi.call (fn20 (h.rd (cs := [u1, u2])) (h.rd (cs := [wl])) hw (by omega) fun H cs f => ?_))
  obtain ⟨y1, y2, rfl, _, _⟩ := hasProb f.read
  have h := h.add f
  have k2 := (h.rd (cs := [y1, y2]) (r := RProblem)).cell
  simp only [gw]
  refine Wl.new h fun H b3 h => Wl.putA (vs := [y1, y2]) h rfl rfl k2 fun H h => ?_
  have h : Ab.Loc H0 [.box b3 [y1, y2], .data RProblem [y1, y2] (renRes q l).1, .box b2 [w1, w2], .data RProblem [w1, w2] (renRes q l).1, .box b1 [u1, u2], .data RProblem [u1, u2] q, .data RS [wl] l] _ := h
  refine Wi.neqC (fun g => absurd rfl g) fun _ => ?_
  simp only [gw]
  refine Wl.getA (b := b2) h rfl (Wl.getA (b := b3) h rfl (Wi.call (fn17 (h.rd (cs := [w1, w2])) (h.rd (cs := [y1, y2])) fun H hle => ?_)))
  have h := h.to hle
  simp only [gw]
  have fin : ∀ H, H0.Le H → f3.j4 (fun v _ => v = .bool true) vc H := fun H hle => fp_j4 (hc.le hle) hcl (hl.le hle)
  refine Wi.eqlC (fun h0 => ?_) fun _ => ?_
  · simp only [gw]
    obtain ⟨h5, x, d1, d2⟩ := ren_det h0
    have hp5 := pow5' h5
    refine Wl.len (v := wl) (xs := l) h (Wi.convN (by omega) (Wi.shl1 (by omega) (Wi.sub (by generalize 2 ^ l.length = z at *; unfold I64; omega) ?_)))
    refine Wl.getA (b := b1) h rfl (Wi.call (fn8 (h.rd (cs := [u1, u2])) fun H hle => ?_))
    have h := h.to hle
    rw [d1]
    simp only [gw]
    refine Wl.getA (b := b2) h rfl (Wi.call (fn8 (h.rd (cs := [w1, w2])) fun H hle => ?_))
    have h := h.to hle
    rw [d2]
    simp only [gw]
    refine Wi.neqC (fun g => absurd rfl g) fun _ => ?_
    simp only [gw]
    refine Wi.neqC (fun g => absurd rfl g) fun _ => ?_
    simp only [gw]
    refine Wi.neqC (fun g => absurd rfl g) fun _ => ?_
    simp only [gw]
    exact fin _ h.le
  · simp only [gw]
    exact fin _ h.le

theorem fp_j2 {H0 H : Heap} {vc : Value} {code : List Int} {u1 u2 : Value} {p : Prob} {b5 : Nat} {D c : Int} {yes feas : Bool} (hc : Has RBytes H0 [vc] code) (hcl : code.length ≤ 4096) (hl : LibOK H0)
    (h : Ab.Loc H0 [.box b5 [u1, u2], .data RProblem [u1, u2] p] H) (hp : isProb p = true) (hD : D ≠ 0) (hy : c = 0 → yes = feas) :
    f3.j2 (fun v _ => v = .bool true) (.int .i64 D) (.int .i64 c) (.bool yes) (.bool feas) (pt b5 0) vc H := by
  unfold f3.j2
  refine Wi.eqlC (fun g => absurd g hD) fun _ => ?_
  simp only [gw]
  have rest : ∀ H, Ab.Loc H0 [.box b5 [u1, u2], .data RProblem [u1, u2] p] H → W.getN 2 (pt b5 0) H fun v115 H => W.call Tryz.prog (.func (.func 15) #[] #[]) #[v115] H fun v116 H => W.extract 0 v116 H fun v117 H => W.extract 1 v116 H fun v118 H =>
      W.call Tryz.prog (.func (.func 16) #[] #[]) #[v117] H fun v119 H => W.extract 0 v119 H fun v120 H => W.extract 1 v119 H fun v121 H => W.new [(.slice none 0 0), (.slice none 0 0)] 27 H fun v122 H => W.putN 2 v122 v120 H fun _ H =>
      W.bin .neq v118 (.int .i64 0) H fun v123 H => W.guarded v123 false (fun H k => k v121 H) H fun v124 H => W.guarded v123 false (fun H k => W.bin .neq v124 (.int .i64 0) H k) H fun v125 H => W.pick v123 (.bool true) v125 H fun v126 H =>
      W.guarded v126 false (fun H k => W.getN 2 v122 H k) H fun v127 H => W.guarded v126 false (fun H k => W.getN 2 (pt b5 0) H k) H fun v128 H => W.guarded v126 false (fun H k => W.call Tryz.prog (.func (.func 17) #[] #[]) #[v127, v128] H k) H fun v129 H =>
      W.guarded v126 false (fun H k => W.un .not v129 H k) H fun v130 H => W.pick v126 (.bool true) v130 H fun v131 H => W.cond v131 H (fun _ => (.bool false : Value) = .bool true) (fun H => f3.j3 (fun v _ => v = .bool true) vc H) := fun H h => by
    have hsm := text_small hp (h.rd (cs := [u1, u2]))
    refine Wl.getA (b := b5) h rfl (Wi.call (fn15 (hl.le h.le) (h.rd (cs := [u1, u2])) (fun _ H l => ?_) fun g => absurd hp g))
    have h := h.to l
    simp only [gw]
    refine Wi.call (fn16 (hl.le h.le) (by omega) fun H w1 w2 f => ?_)
    rw [par_text hp] at f ⊢
    have h := h.add f
    have k1 := (h.rd (cs := [w1, w2]) (r := RProblem)).cell
    simp only [gw]
    refine Wl.new h fun H b6 h => Wl.putA h rfl rfl k1 fun H h => ?_
    have h : Ab.Loc H0 [.box b6 [w1, w2], .data RProblem [w1, w2] p, .box b5 [u1, u2], .data RProblem [u1, u2] p] _ := h
    refine Wi.neqC (fun g => absurd rfl g) fun _ => ?_
    simp only [gw]
    refine Wi.neqC (fun g => absurd rfl g) fun _ => ?_
    simp only [gw]
    refine Wl.getA (b := b6) h rfl (Wl.getA (b := b5) h rfl (Wi.call (fn17 (h.rd (cs := [w1, w2])) (h.rd (cs := [u1, u2])) fun H l => ?_)))
    have h := h.to l
    simp only [gw]
    exact fp_j3 (hc.le h.le) hcl (hl.le h.le)
  refine Wi.eqlC (fun g => ?_) fun _ => ?_
  · simp only [gw]
    refine Wi.neqBool ?_
    rw [hy g, beq_self_eq_true]
    simp only [gw, Bool.not_true]
    exact rest _ h
  · simp only [gw]
    exact rest _ h

theorem law3 {H0 : Heap} {bs0 : List Nat} {v0 : Value} {x0 : List Int} (hr0 : RBytes.rel H0 bs0 [v0] x0) (hl : LibOK H0) : Runs Tryz.prog 3 #[v0] H0 (fun v _ => v = .bool true) := by
  have hc : Has RBytes H0 [v0] x0 := ⟨bs0, hr0⟩
  refine f3.enter ?_
  unfold f3.w
  refine Wi.call (f4.enter (Wl.lenH hc ?_))
  have hbig : ¬ (4096 : Int) < (x0.length : Nat) → x0.length ≤ 4096 := fun g => by omega
  generalize (4096 : Int) = top at *
  refine Wi.gtrC (fun _ => Wi.tru rfl) fun g => Wi.fls ?_
  have hcl := hbig g
  refine Wi.call (fn5 hc fun H u1 u2 p s f hps hs => ?_)
  have h := (Loc.start H0).add f
  have kp := (h.rd (cs := [u1, u2]) (r := RProblem)).cell
  simp only [gw]
  refine Wl.new h fun H b5 h => Wl.putA h rfl rfl kp fun H h => Wl.getA (b := b5) h rfl (Wi.call (fn6 (h.rd (cs := [u1, u2])) fun H v8 f => ?_))
  have h := h.add f
  simp only [gw]
  refine Wl.getA (b := b5) h rfl (Wi.call (fn7 (h.rd (cs := [u1, u2])) fun H v12 f => ?_))
  have h := h.add f
  simp only [gw]
  refine Wl.getA (b := b5) h rfl (Wi.call (fn8 (h.rd (cs := [u1, u2])) fun H l => ?_))
  have h := h.to l
  simp only [gw]
  refine Wl.getA (b := b5) h rfl (Wi.call (fn9 (h.rd (cs := [u1, u2])) fun H l => ?_))
  have h := h.to l
  simp only [gw]
  have h : Ab.Loc H0 [.data RFS [v12] (poRes p s).1, .data RFS [v8] (poRes p s).1, .box b5 [u1, u2], .data RProblem [u1, u2] p] _ := h
  refine Wi.neqC (fun g => absurd rfl g) fun _ => ?_
  simp only [gw]
  refine Wi.callQ (fn10 (h.rd (cs := [v8])) (h.rd (cs := [v12])) ⟨.refl _, ?_⟩)
  rw [decide_eq_true rfl]
  simp only [gw]
  refine Wi.neqC (fun g => absurd rfl g) fun _ => ?_
  simp only [gw]
  refine Wi.neqC (fun g => absurd rfl g) fun _ => ?_
  simp only [gw]
  refine Wl.getA (b := b5) h rfl ?_
  obtain ⟨_, q⟩ := h.rd (cs := [u1, u2]) (r := RProblem)
  refine Wi.callQ (fn11 q fun H l => ⟨l, ?_⟩)
  have h := h.to l
  refine Wl.getA (b := b5) h rfl ?_
  obtain ⟨_, q⟩ := h.rd (cs := [u1, u2]) (r := RProblem)
  refine Wi.callQ (fn12 q fun H l => ⟨l, ?_⟩)
  have h := h.to l
  refine Wi.neqBool ?_
  rw [beq_self_eq_true]
  simp only [gw, Bool.not_true]
  refine Wi.eqlC (fun h0 => ?_) fun _ => ?_
  case refine_2 =>
    simp only [gw]
    exact fp_j3 (hc.le h.le) hcl (hl.le h.le)
  simp only [gw]
  obtain ⟨k, rfl, hk, hp, hpb, hD, hF, hfr, hde⟩ := po_ok h0
  rw [hde]
  dsimp only
  have h := h.cut 0
  have h : Ab.Loc H0 [.data RFS [v8] (poRes p (k : Nat)).1, .box b5 [u1, u2], .data RProblem [u1, u2] p] _ := h
  have hn5 := hpb.n5
  have hlF : (poRes p (k : Nat)).1.length = p.2.length := by rw [hF, pt_len]
  generalize hFF : (poRes p (k : Nat)).1 = F at *
  clear hFF
  have hlZ : (solZ p.2.length p k).length = p.2.length := by simp [solZ]
  have hZat : ∀ i (hi : i < (solZ p.2.length p k).length) (h2 : i < F.length), (solZ p.2.length p k)[i] = if k.testBit i = true then F[i] else (0, 1) := fun i hi h2 => by
    subst hF
    rw [pt_at]
    simp [solZ]
  refine Wl.lit0 RFrac (ty := 38) rfl h fun H z0 h => ?_
  refine W.for_rule p.2.length (fun i st H => ∃ z, st = (z, .bool ((F.take i).all fun a => decide (0 ≤ a.1)), .int .i64 (i : Nat), ()) ∧ Ab.Loc H0 [.grow RFrac 38 z ((solZ p.2.length p k).take i), .data RFS [v8] F, .box b5 [u1, u2], .data RProblem [u1, u2] p] H) ⟨z0, rfl, h⟩ ?_
  rintro i st H J hi ⟨z, rfl, h⟩ hJ
  refine Wl.len (v := v8) (xs := F) h (Wi.lssC (fun hlt => Wi.tru ?_) fun hge => Wi.fls ?_)
  · have hiF : i < F.length := by omega
    have hiZ : i < (solZ p.2.length p k).length := by omega
    have body : ∀ b H, b = ((F.take (i + 1)).all fun a => decide (0 ≤ a.1)) → Ab.Loc H0 [.grow RFrac 38 z ((solZ p.2.length p k).take i), .data RFS [v8] F, .box b5 [u1, u2], .data RProblem [u1, u2] p] H →
        W.conv .u64 (.int .i64 (i : Nat)) H fun v53 H => W.bin .shr (.int .i64 (k : Nat)) v53 H fun v54 H => W.bin .and v54 (.int .i64 1) H fun v55 H => W.bin .eql v55 (.int .i64 1) H fun v56 H => W.cond v56 H
        (fun H => W.indexAddr 2 v8 (.int .i64 (i : Nat)) H fun v57 H => W.getN 2 v57 H fun v58 H => W.lit 1 [(.int .i64 0), (.int .i64 0)] 38 [(0, 2, v58)] H fun v59 H => W.append 2 38 z v59 H fun v60 H => f3.j1 (fun v _ => v = .bool true) (.int .i64 (i : Nat)) (.bool b) J v60 H)
        (fun H => W.build [(.int .i64 0), (.int .i64 0)] [(0, 1, (.int .i64 0)), (1, 1, (.int .i64 1))] H fun v62 H => W.lit 1 [(.int .i64 0), (.int .i64 0)] 38 [(0, 2, v62)] H fun v63 H => W.append 2 38 z v63 H fun v64 H => f3.j1 (fun v _ => v = .bool true) (.int .i64 (i : Nat)) (.bool b) J v64 H) := fun b H hb h => by
      subst hb
      refine Wi.convN (by omega) (Wi.shrN (by omega) (by omega) (Wi.and1 (Wi.eqlC (fun ho => Wi.tru ?_) fun hno => Wi.fls ?_)))
      · have hbit : k.testBit i = true := bit_iff.1 ho
        refine Wl.atFr (v := v8) (xs := F) (i := i) h hiF fun a1 a2 => ?_
        refine Wl.pushP (r := RFrac) (x := F[i]) (i := 0) rfl rfl rfl (frac_rel ⟨a1, a2⟩) h (by simp; omega) fun H z' h => ?_
        unfold f3.j1
        refine Wi.add (by unfold I64; omega) (hJ _ _ (by omega) ⟨z', rfl, ?_⟩)
        rw [List.take_succ_eq_append_getElem hiZ, hZat i hiZ hiF, if_pos hbit]
        exact h
      · have hbit : ¬ k.testBit i = true := fun g => hno (bit_iff.2 g)
        refine Wi.build (cells := frC (0, 1)) rfl ?_
        refine Wl.pushP (r := RFrac) (x := ((0, 1) : Frac)) (i := 0) rfl rfl rfl (frac_rel (by unfold I64; decide)) h (by simp; omega) fun H z' h => ?_
        unfold f3.j1
        refine Wi.add (by unfold I64; omega) (hJ _ _ (by omega) ⟨z', rfl, ?_⟩)
        rw [List.take_succ_eq_append_getElem hiZ, hZat i hiZ hiF, if_neg hbit]
        exact h
    have et : ((F.take (i + 1)).all fun a => decide (0 ≤ a.1)) = (((F.take i).all fun a => decide (0 ≤ a.1)) && decide (0 ≤ F[i].1)) := by
      rw [List.take_succ_eq_append_getElem hiF, List.all_append]
      simp
    cases hb : (F.take i).all fun a => decide (0 ≤ a.1) with
    | false =>
      rw [hb] at et
      simp only [gw]
      exact body _ _ (by rw [et]; rfl) h
    | true =>
      rw [hb] at et
      simp only [gw]
      refine Wl.numFr (v := v8) (xs := F) (i := i) h hiF fun _ => Wi.geqC (fun g => ?_) fun g => ?_
      · exact body _ _ (by rw [et, decide_eq_true g]; rfl) h
      · exact body _ _ (by rw [et, decide_eq_false g]; rfl) h
  · have : i = p.2.length := by omega
    subst this
    rw [List.take_of_length_le (show F.length ≤ p.2.length by omega)]
    rw [List.take_of_length_le (show (solZ p.2.length p k).length ≤ p.2.length by omega)] at h
    have h := h.asData (i := 0) rfl
    have h : Ab.Loc H0 [.data RFS [z] (solZ p.2.length p k), .data RFS [v8] F, .box b5 [u1, u2], .data RProblem [u1, u2] p] _ := h
    refine Wl.getA (b := b5) h rfl (Wi.call (fn13 (h.rd (cs := [u1, u2])) (h.rd (cs := [z])) fun H v67 _ f => ?_))
    have h := h.add f
    simp only [gw]
    refine Wl.getA (b := b5) h rfl (Wi.call (fnR14 (h.rd (cs := [u1, u2])) (h.rd (cs := [z])) fun H l => ?_))
    have h := h.to l
    simp only [gw]
    have hre := re_ok hp hD hF hfr
    have his := is_ok hp hD hF hfr
    generalize reRes p (solZ p.2.length p k) = R at *
    generalize isRes p (solZ p.2.length p k) = I at *
    have h : Ab.Loc H0 [.data RFS [v67] R.1, .data RFS [z] (solZ p.2.length p k), .data RFS [v8] F, .box b5 [u1, u2], .data RProblem [u1, u2] p] _ := h
    have fin : ∀ H, Ab.Loc H0 [.data RFS [v67] R.1, .data RFS [z] (solZ p.2.length p k), .data RFS [v8] F, .box b5 [u1, u2], .data RProblem [u1, u2] p] H → f3.j2 (fun v _ => v = .bool true) (.int .i64 (det p.2.length (mAt (colL p.2.length p.1 k)))) (.int .i64 I.2) (.bool I.1) (.bool (F.all fun a => decide (0 ≤ a.1))) (pt b5 0) v0 H := fun H h =>
      fp_j2 hc hcl hl (((h.cut 0).cut 0).cut 0) hp hD his
    refine Wi.eqlC (fun hz => ?_) fun _ => ?_
    case refine_2 =>
      simp only [gw]
      exact fin _ h
    simp only [gw]
    obtain ⟨hlR, hR⟩ := hre hz
    refine W.for_rule p.2.length (fun i st H => st = (.int .i64 (i : Nat), ()) ∧ Ab.Loc H0 [.data RFS [v67] R.1, .data RFS [z] (solZ p.2.length p k), .data RFS [v8] F, .box b5 [u1, u2], .data RProblem [u1, u2] p] H) ⟨rfl, h⟩ ?_
    rintro i st H J hi2 ⟨rfl, h⟩ hJ
    refine Wl.len (v := v67) (xs := R.1) h (Wi.lssC (fun hlt => Wi.tru ?_) fun hge => Wi.fls (fin _ h))
    have hiR : i < R.1.length := by omega
    have hiF : i < F.length := by omega
    have hin : i < p.2.length := by omega
    obtain ⟨r1, r2⟩ := hR i hiR hiF
    refine Wi.convN (by omega) (Wi.shrN (by omega) (by omega) (Wi.and1 (Wi.eqlC (fun ho => ?_) fun hno => ?_)))
    · have hbit : k.testBit i = true := bit_iff.1 ho
      simp only [gw]
      refine Wl.numFr (v := v67) (xs := R.1) (i := i) h hiR fun _ => Wi.neqC (fun g => absurd (r1 hbit) g) fun _ => ?_
      simp only [gw]
      refine Wi.convN (by omega) (Wi.shrN (by omega) (by omega) (Wi.and1 (Wi.eqlC (fun hz => ?_) fun _ => ?_)))
      · exact absurd (ho.symm.trans hz) (by decide)
      · simp only [gw]
        exact Wi.add (by unfold I64; omega) (hJ _ _ hin ⟨rfl, h⟩)
    · have hbit : k.testBit i = false := by
        cases hb : k.testBit i with
        | false => rfl
        | true => exact absurd (bit_iff.2 hb) hno
      simp only [gw]
      refine Wi.convN (by omega) (Wi.shrN (by omega) (by omega) (Wi.and1 (Wi.eqlC (fun hz => ?_) fun _ => ?_)))
      · simp only [gw]
        refine Wl.atFr (v := v67) (xs := R.1) (i := i) h hiR fun a1 a2 => Wl.atFr (v := v8) (xs := F) (i := i) h hiF fun a3 a4 => Wi.nePair ⟨a1, a2⟩ ⟨a3, a4⟩ ?_
        rw [decide_eq_true (r2 hbit)]
        simp only [gw, Bool.not_true]
        exact Wi.add (by unfold I64; omega) (hJ _ _ hin ⟨rfl, h⟩)
      · simp only [gw]
        exact Wi.add (by unfold I64; omega) (hJ _ _ hin ⟨rfl, h⟩)

end Go.Proofs.YtgdiebnokgnniaaGreatDoor
