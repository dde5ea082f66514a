/- The law FnDuals answers true on any abstract heap that holds its code. No condition. -/
import Derived.Test.YtdchibdcfdbcpaaGreatDU1
import Derived.Test.YtdchibdcfdbcpaaGreatGRR
import Derived.Test.YtdchibdcfdbcpaaGreatGWW
import Derived.Test.YtdchibdcfdbcpaaGreatGMM
import Derived.Test.YtdchibdcfdbcpaaGreatGKK
import Derived.Test.YtdchibdcfdbcpaaGreatGMA
import Derived.Test.YtdchibdcfdbcpaaGreatGQQ
import Derived.Test.YtdchibdcfdbcpaaGreatReadsY
namespace Go.Proofs.YtdchibdcfdbcpaaGreat
open Go.Ab

/- loop.example/g01343/laws.FnDuals -/
def f3.j5 (Q : Post) (H : Heap) : Prop :=
  Q (.bool true) H
def f3.j4 (Q : Post) (H : Heap) : Prop :=
  f3.j5 Q H
def f3.l1 (Q : Post) (v148 : Value) (v150 : Value) (v157 : Value) (v156 : Value) (I1 : St [49, 50] → Heap → Prop) (place_49 : Value) (i_50 : Value) (H : Heap) : Prop :=
  W.len v148 H fun v176 H =>
  W.bin .lss i_50 v176 H fun v177 H =>
  W.cond v177 H
  (fun H => W.indexAddr 1 v148 i_50 H fun v178 H =>
   W.get v178 H fun v179 H =>
   W.build [(.int .i64 0), (.int .i64 0)] [(0, 1, v179), (1, 1, (.int .i64 1))] H fun v180 H =>
   W.lit 1 [(.int .i64 0), (.int .i64 0)] 34 [(0, 2, v180)] H fun v181 H =>
   W.append 2 34 place_49 v181 H fun v182 H =>
   W.bin .add i_50 (.int .i64 1) H fun v183 H =>
   I1 (v182, v183, ()) H)
  (fun H => W.getN 4 v150 H fun v184 H =>
   W.call Tryz.prog (.func (.func 21) #[] #[]) #[v184, place_49] H fun v185 H =>
   W.extract 0 v185 H fun v186 H =>
   W.extract 1 v185 H fun v187 H =>
   W.new [(.int .i64 0), (.int .i64 0)] 34 H fun v188 H =>
   W.putN 2 v188 v186 H fun _ H =>
   W.bin .eql v187 (.int .i64 0) H fun v189 H =>
   W.cond v189 H
   (fun H => W.getN 2 v157 H fun v190 H =>
    W.getN 2 v188 H fun v191 H =>
    W.call Tryz.prog (.func (.func 22) #[] #[]) #[v190, v191] H fun v192 H =>
    W.extract 0 v192 H fun v193 H =>
    W.extract 1 v192 H fun v194 H =>
    W.bin .neq v194 (.int .i64 0) H fun v195 H =>
    W.guarded v195 false (fun H k => k v193 H) H fun v196 H =>
    W.guarded v195 false (fun H k => W.bin .gtr v196 (.int .i64 0) H k) H fun v197 H =>
    W.pick v195 (.bool true) v197 H fun v198 H =>
    W.guarded v198 false (fun H k => k v193 H) H fun v199 H =>
    W.guarded v198 false (fun H k => W.bin .eql v199 (.int .i64 0) H k) H fun v200 H =>
    W.guarded v198 false (fun H k => W.fieldAddr 0 v156 H k) H fun v201 H =>
    W.guarded v198 false (fun H k => W.get v201 H k) H fun v202 H =>
    W.guarded v198 false (fun H k => W.bin .eql v202 (.int .i64 0) H k) H fun v203 H =>
    W.guarded v198 false (fun H k => W.eqBool .neq v200 v203 H k) H fun v204 H =>
    W.pick v198 (.bool true) v204 H fun v205 H =>
    W.cond v205 H
    (fun H => Q (.bool false) H)
    (fun H => f3.j4 Q H))
   (fun H => f3.j4 Q H))
def f3.j3 (Q : Post) (code_0 : Value) (H : Heap) : Prop :=
  W.call Tryz.prog (.func (.func 15) #[] #[]) #[code_0] H fun v123 H =>
  W.extract 0 v123 H fun v124 H =>
  W.extract 1 v123 H fun v125 H =>
  W.new [(.slice none 0 0), (.slice none 0 0), (.slice none 0 0), (.slice none 0 0)] 27 H fun v126 H =>
  W.new [(.slice none 0 0), (.slice none 0 0), (.slice none 0 0), (.slice none 0 0)] 27 H fun v127 H =>
  W.putN 4 v126 v124 H fun _ H =>
  W.putN 4 v127 v125 H fun _ H =>
  W.getN 4 v126 H fun v128 H =>
  W.getN 4 v127 H fun v129 H =>
  W.call Tryz.prog (.func (.func 16) #[] #[]) #[v128, v129] H fun v130 H =>
  W.extract 0 v130 H fun v131 H =>
  W.extract 1 v130 H fun v132 H =>
  W.new [(.slice none 0 0), (.slice none 0 0), (.slice none 0 0), (.slice none 0 0)] 27 H fun v133 H =>
  W.putN 4 v133 v131 H fun _ H =>
  W.getN 4 v126 H fun v134 H =>
  W.getN 4 v127 H fun v135 H =>
  W.call Tryz.prog (.func (.func 17) #[] #[]) #[v134, v135] H fun v136 H =>
  W.extract 0 v136 H fun v137 H =>
  W.extract 1 v136 H fun v138 H =>
  W.new [(.slice none 0 0), (.slice none 0 0), (.slice none 0 0), (.slice none 0 0)] 27 H fun v139 H =>
  W.putN 4 v139 v137 H fun _ H =>
  W.bin .neq v132 v138 H fun v140 H =>
  W.guarded v140 false (fun H k => W.getN 4 v133 H k) H fun v141 H =>
  W.guarded v140 false (fun H k => W.getN 4 v139 H k) H fun v142 H =>
  W.guarded v140 false (fun H k => W.call Tryz.prog (.func (.func 9) #[] #[]) #[v141, v142] H k) H fun v143 H =>
  W.guarded v140 false (fun H k => W.un .not v143 H k) H fun v144 H =>
  W.pick v140 (.bool true) v144 H fun v145 H =>
  W.cond v145 H
  (fun H => Q (.bool false) H)
  (fun H => W.call Tryz.prog (.func (.func 18) #[] #[]) #[code_0] H fun v146 H =>
   W.extract 0 v146 H fun v147 H =>
   W.extract 1 v146 H fun v148 H =>
   W.extract 2 v146 H fun v149 H =>
   W.new [(.slice none 0 0), (.slice none 0 0), (.slice none 0 0), (.slice none 0 0)] 27 H fun v150 H =>
   W.putN 4 v150 v147 H fun _ H =>
   W.getN 4 v150 H fun v151 H =>
   W.call Tryz.prog (.func (.func 19) #[] #[]) #[v151, v148, v149] H fun v152 H =>
   W.extract 0 v152 H fun v153 H =>
   W.extract 1 v152 H fun v154 H =>
   W.extract 2 v152 H fun v155 H =>
   W.new [(.int .i64 0), (.int .i64 0)] 34 H fun v156 H =>
   W.new [(.int .i64 0), (.int .i64 0)] 34 H fun v157 H =>
   W.putN 2 v156 v153 H fun _ H =>
   W.putN 2 v157 v154 H fun _ H =>
   W.getN 4 v150 H fun v158 H =>
   W.call Tryz.prog (.func (.func 20) #[] #[]) #[v158, v148, v149] H fun v159 H =>
   W.extract 0 v159 H fun v160 H =>
   W.extract 1 v159 H fun v161 H =>
   W.extract 2 v159 H fun v162 H =>
   W.new [(.int .i64 0), (.int .i64 0)] 34 H fun v163 H =>
   W.new [(.int .i64 0), (.int .i64 0)] 34 H fun v164 H =>
   W.putN 2 v163 v160 H fun _ H =>
   W.putN 2 v164 v161 H fun _ H =>
   W.bin .neq v155 v162 H fun v165 H =>
   W.guarded v165 false (fun H k => W.getN 2 v156 H k) H fun v166 H =>
   W.guarded v165 false (fun H k => W.getN 2 v163 H k) H fun v167 H =>
   W.guarded v165 false (fun H k => W.eqPair .neq v166 v167 H k) H fun v168 H =>
   W.pick v165 (.bool true) v168 H fun v169 H =>
   W.guarded v169 false (fun H k => W.getN 2 v157 H k) H fun v170 H =>
   W.guarded v169 false (fun H k => W.getN 2 v164 H k) H fun v171 H =>
   W.guarded v169 false (fun H k => W.eqPair .neq v170 v171 H k) H fun v172 H =>
   W.pick v169 (.bool true) v172 H fun v173 H =>
   W.cond v173 H
   (fun H => Q (.bool false) H)
   (fun H => W.bin .eql v155 (.int .i64 0) H fun v174 H =>
    W.cond v174 H
    (fun H => W.lit 0 [(.int .i64 0), (.int .i64 0)] 34 [] H fun v175 H =>
     W.loop (S := St [49, 50]) (fun I1 s H => f3.l1 Q v148 v150 v157 v156 I1 s.1 s.2.1 H) (v175, (.int .i64 0), ()) H)
    (fun H => f3.j5 Q H)))
def f3.j2 (Q : Post) (code_0 : Value) (H : Heap) : Prop :=
  f3.j3 Q code_0 H
def f3.j1 (Q : Post) (code_0 : Value) (H : Heap) : Prop :=
  W.call Tryz.prog (.func (.func 11) #[] #[]) #[code_0] H fun v73 H =>
  W.extract 0 v73 H fun v74 H =>
  W.extract 1 v73 H fun v75 H =>
  W.new [(.slice none 0 0), (.slice none 0 0), (.slice none 0 0), (.slice none 0 0)] 27 H fun v76 H =>
  W.putN 4 v76 v74 H fun _ H =>
  W.getN 4 v76 H fun v77 H =>
  W.call Tryz.prog (.func (.func 12) #[] #[]) #[v77, v75] H fun v78 H =>
  W.extract 0 v78 H fun v79 H =>
  W.extract 1 v78 H fun v80 H =>
  W.new [(.slice none 0 0), (.slice none 0 0), (.slice none 0 0), (.slice none 0 0)] 27 H fun v81 H =>
  W.putN 4 v81 v79 H fun _ H =>
  W.getN 4 v76 H fun v82 H =>
  W.call Tryz.prog (.func (.func 13) #[] #[]) #[v82, v75] H fun v83 H =>
  W.extract 0 v83 H fun v84 H =>
  W.extract 1 v83 H fun v85 H =>
  W.new [(.slice none 0 0), (.slice none 0 0), (.slice none 0 0), (.slice none 0 0)] 27 H fun v86 H =>
  W.putN 4 v86 v84 H fun _ H =>
  W.bin .neq v80 v85 H fun v87 H =>
  W.guarded v87 false (fun H k => W.getN 4 v81 H k) H fun v88 H =>
  W.guarded v87 false (fun H k => W.getN 4 v86 H k) H fun v89 H =>
  W.guarded v87 false (fun H k => W.call Tryz.prog (.func (.func 9) #[] #[]) #[v88, v89] H k) H fun v90 H =>
  W.guarded v87 false (fun H k => W.un .not v90 H k) H fun v91 H =>
  W.pick v87 (.bool true) v91 H fun v92 H =>
  W.cond v92 H
  (fun H => Q (.bool false) H)
  (fun H => W.bin .eql v80 (.int .i64 0) H fun v93 H =>
   W.cond v93 H
   (fun H => W.getN 4 v76 H fun v94 H =>
    W.call Tryz.prog (.func (.func 10) #[] #[]) #[v94] H fun v95 H =>
    W.extract 0 v95 H fun v96 H =>
    W.extract 1 v95 H fun v97 H =>
    W.extract 2 v95 H fun v98 H =>
    W.extract 3 v95 H fun v99 H =>
    W.new [(.int .i64 0), (.int .i64 0)] 34 H fun v100 H =>
    W.putN 2 v100 v98 H fun _ H =>
    W.getN 4 v81 H fun v101 H =>
    W.call Tryz.prog (.func (.func 10) #[] #[]) #[v101] H fun v102 H =>
    W.extract 0 v102 H fun v103 H =>
    W.extract 1 v102 H fun v104 H =>
    W.extract 2 v102 H fun v105 H =>
    W.extract 3 v102 H fun v106 H =>
    W.new [(.int .i64 0), (.int .i64 0)] 34 H fun v107 H =>
    W.putN 2 v107 v105 H fun _ H =>
    W.bin .eql v99 (.int .i64 0) H fun v108 H =>
    W.guarded v108 true (fun H k => k v106 H) H fun v109 H =>
    W.guarded v108 true (fun H k => W.bin .eql v109 (.int .i64 0) H k) H fun v110 H =>
    W.pick v108 v110 (.bool false) H fun v111 H =>
    W.cond v111 H
    (fun H => W.getN 2 v100 H fun v112 H =>
     W.build [(.int .i64 0), (.int .i64 0)] [(0, 1, v75), (1, 1, (.int .i64 1))] H fun v113 H =>
     W.call Tryz.prog (.func (.func 14) #[] #[]) #[v112, v113] H fun v114 H =>
     W.extract 0 v114 H fun v115 H =>
     W.extract 1 v114 H fun v116 H =>
     W.new [(.int .i64 0), (.int .i64 0)] 34 H fun v117 H =>
     W.putN 2 v117 v115 H fun _ H =>
     W.bin .eql v116 (.int .i64 0) H fun v118 H =>
     W.guarded v118 true (fun H k => W.getN 2 v117 H k) H fun v119 H =>
     W.guarded v118 true (fun H k => W.getN 2 v107 H k) H fun v120 H =>
     W.guarded v118 true (fun H k => W.eqPair .neq v119 v120 H k) H fun v121 H =>
     W.pick v118 v121 (.bool false) H fun v122 H =>
     W.cond v122 H
     (fun H => Q (.bool false) H)
     (fun H => f3.j2 Q code_0 H))
    (fun H => f3.j2 Q code_0 H))
   (fun H => f3.j3 Q code_0 H))
def f3.w (Q : Post) (code_0 : Value) (H : Heap) : Prop :=
  W.call Tryz.prog (.func (.func 5) #[] #[]) #[code_0] H fun v1 H =>
  W.cond v1 H
  (fun H => Q (.bool true) H)
  (fun H => W.call Tryz.prog (.func (.func 6) #[] #[]) #[code_0] H fun v2 H =>
   W.new [(.slice none 0 0), (.slice none 0 0), (.slice none 0 0), (.slice none 0 0)] 27 H fun v3 H =>
   W.putN 4 v3 v2 H fun _ H =>
   W.getN 4 v3 H fun v4 H =>
   W.call Tryz.prog (.func (.func 7) #[] #[]) #[v4] H fun v5 H =>
   W.extract 0 v5 H fun v6 H =>
   W.extract 1 v5 H fun v7 H =>
   W.new [(.slice none 0 0), (.slice none 0 0), (.slice none 0 0), (.slice none 0 0)] 27 H fun v8 H =>
   W.putN 4 v8 v6 H fun _ H =>
   W.getN 4 v3 H fun v9 H =>
   W.call Tryz.prog (.func (.func 8) #[] #[]) #[v9] H fun v10 H =>
   W.extract 0 v10 H fun v11 H =>
   W.extract 1 v10 H fun v12 H =>
   W.new [(.slice none 0 0), (.slice none 0 0), (.slice none 0 0), (.slice none 0 0)] 27 H fun v13 H =>
   W.putN 4 v13 v11 H fun _ H =>
   W.bin .neq v7 v12 H fun v14 H =>
   W.guarded v14 false (fun H k => W.getN 4 v8 H k) H fun v15 H =>
   W.guarded v14 false (fun H k => W.getN 4 v13 H k) H fun v16 H =>
   W.guarded v14 false (fun H k => W.call Tryz.prog (.func (.func 9) #[] #[]) #[v15, v16] H k) H fun v17 H =>
   W.guarded v14 false (fun H k => W.un .not v17 H k) H fun v18 H =>
   W.pick v14 (.bool true) v18 H fun v19 H =>
   W.cond v19 H
   (fun H => Q (.bool false) H)
   (fun H => W.bin .eql v7 (.int .i64 0) H fun v20 H =>
    W.cond v20 H
    (fun H => W.getN 4 v3 H fun v21 H =>
     W.call Tryz.prog (.func (.func 10) #[] #[]) #[v21] H fun v22 H =>
     W.extract 0 v22 H fun v23 H =>
     W.extract 1 v22 H fun v24 H =>
     W.extract 2 v22 H fun v25 H =>
     W.extract 3 v22 H fun v26 H =>
     W.new [(.int .i64 0), (.int .i64 0)] 34 H fun v27 H =>
     W.putN 2 v27 v25 H fun _ H =>
     W.getN 4 v8 H fun v28 H =>
     W.call Tryz.prog (.func (.func 10) #[] #[]) #[v28] H fun v29 H =>
     W.extract 0 v29 H fun v30 H =>
     W.extract 1 v29 H fun v31 H =>
     W.extract 2 v29 H fun v32 H =>
     W.extract 3 v29 H fun v33 H =>
     W.new [(.int .i64 0), (.int .i64 0)] 34 H fun v34 H =>
     W.putN 2 v34 v32 H fun _ H =>
     W.bin .eql v26 (.int .i64 0) H fun v35 H =>
     W.bin .eql v33 (.int .i64 0) H fun v36 H =>
     W.eqBool .neq v35 v36 H fun v37 H =>
     W.guarded v37 true (fun H k => k v26 H) H fun v38 H =>
     W.guarded v37 true (fun H k => W.bin .neq v38 (.int .i64 3) H k) H fun v39 H =>
     W.pick v37 v39 (.bool false) H fun v40 H =>
     W.guarded v40 true (fun H k => k v33 H) H fun v41 H =>
     W.guarded v40 true (fun H k => W.bin .neq v41 (.int .i64 3) H k) H fun v42 H =>
     W.pick v40 v42 (.bool false) H fun v43 H =>
     W.cond v43 H
     (fun H => Q (.bool false) H)
     (fun H => W.bin .eql v26 (.int .i64 0) H fun v44 H =>
      W.guarded v44 true (fun H k => k v33 H) H fun v45 H =>
      W.guarded v44 true (fun H k => W.bin .eql v45 (.int .i64 0) H k) H fun v46 H =>
      W.pick v44 v46 (.bool false) H fun v47 H =>
      W.guarded v47 true (fun H k => W.fieldAddr 0 v27 H k) H fun v48 H =>
      W.guarded v47 true (fun H k => W.get v48 H k) H fun v49 H =>
      W.guarded v47 true (fun H k => W.fieldAddr 0 v34 H k) H fun v50 H =>
      W.guarded v47 true (fun H k => W.get v50 H k) H fun v51 H =>
      W.guarded v47 true (fun H k => W.un .neg v51 H k) H fun v52 H =>
      W.guarded v47 true (fun H k => W.bin .neq v49 v52 H k) H fun v53 H =>
      W.guarded v47 true (fun H k => k v53 H) H fun v54 H =>
      W.guarded v54 false (fun H k => W.fieldAddr 1 v27 H k) H fun v55 H =>
      W.guarded v54 false (fun H k => W.get v55 H k) H fun v56 H =>
      W.guarded v54 false (fun H k => W.fieldAddr 1 v34 H k) H fun v57 H =>
      W.guarded v54 false (fun H k => W.get v57 H k) H fun v58 H =>
      W.guarded v54 false (fun H k => W.bin .neq v56 v58 H k) H fun v59 H =>
      W.guarded v47 true (fun H k => W.pick v54 (.bool true) v59 H k) H fun v60 H =>
      W.pick v47 v60 (.bool false) H fun v61 H =>
      W.cond v61 H
      (fun H => Q (.bool false) H)
      (fun H => W.getN 4 v8 H fun v62 H =>
       W.call Tryz.prog (.func (.func 7) #[] #[]) #[v62] H fun v63 H =>
       W.extract 0 v63 H fun v64 H =>
       W.extract 1 v63 H fun v65 H =>
       W.new [(.slice none 0 0), (.slice none 0 0), (.slice none 0 0), (.slice none 0 0)] 27 H fun v66 H =>
       W.putN 4 v66 v64 H fun _ H =>
       W.bin .neq v65 (.int .i64 0) H fun v67 H =>
       W.guarded v67 false (fun H k => W.getN 4 v66 H k) H fun v68 H =>
       W.guarded v67 false (fun H k => W.getN 4 v3 H k) H fun v69 H =>
       W.guarded v67 false (fun H k => W.call Tryz.prog (.func (.func 9) #[] #[]) #[v68, v69] H k) H fun v70 H =>
       W.guarded v67 false (fun H k => W.un .not v70 H k) H fun v71 H =>
       W.pick v67 (.bool true) v71 H fun v72 H =>
       W.cond v72 H
       (fun H => Q (.bool false) H)
       (fun H => f3.j1 Q code_0 H))))
    (fun H => f3.j1 Q code_0 H)))
theorem f3.enter {Q : Post} {code_0 : Value} {H : Heap} (h : f3.w Q code_0 H) : Runs Tryz.prog 3 #[code_0] H Q :=
  fn_enter (ann := [(43, [49, 50])]) (by kernel_rfl) Tryz.func3 rfl (by kernel_rfl) h (by kernel_rfl)


theorem IsPrg.w {p : Prg} (h : IsPrg p) : wPrg p ≤ 1048576 := by
  have n1 := h.n1; have nm := h.nm; have dl := h.dl; have al := h.al
  have e1 := szl_le (w := List.length) (c := 5) p.1 fun r hr => by have := (h.d r hr).1; omega
  have e2 := szl_le (w := List.length) (c := 5) p.2.2.1 fun r hr => by have := (h.a r hr).1; omega
  simp only [szp, wl]
  omega

abbrev qT : Post := fun v _ => v = .bool true

/-- Sums of programs, least values along rays. -/
theorem du_j3 {H0 : Heap} {v0 : Value} {x0 : List Int} (hc : Has RBytes H0 [v0] x0) : f3.j3 qT v0 H0 := by
  unfold f3.j3
  refine Wi.call (fn15 hc fun H u1 u2 u3 u4 p w1 w2 w3 w4 q f hp hq => ?_)
  have h := (Loc.start H0).add2 (r := RPrg) (s := RPrg) (c1 := [u1, u2, u3, u4]) (c2 := [w1, w2, w3, w4]) rfl f
  have kp := (h.rd (cs := [u1, u2, u3, u4]) (r := RPrg) (x := p)).cell
  have kq := (h.rd (cs := [w1, w2, w3, w4]) (r := RPrg) (x := q)).cell
  simp only [gw]
  refine Wl.new h fun H b126 h => Wl.new h fun H b127 h => Wl.putA (b := b126) (i := 1) h rfl rfl kp fun H h => Wl.putA (b := b127) (i := 0) h rfl rfl kq fun H h => ?_
  refine Wl.getA (b := b126) h rfl (Wl.getA (b := b127) h rfl (Wi.call (fn16 (h.rd (cs := [u1, u2, u3, u4]) (x := p)) (h.rd (cs := [w1, w2, w3, w4]) (x := q)) hp.w hq.w fun H ds f => ?_)))
  obtain ⟨d1, d2, d3, d4, rfl, _⟩ := hasPrg f.read
  have h := h.add f
  have kd := (h.rd (cs := [d1, d2, d3, d4]) (r := RPrg) (x := (apRes p q).1)).cell
  simp only [gw]
  refine Wl.new h fun H b133 h => Wl.putA (b := b133) (i := 0) h rfl rfl kd fun H h => Wl.getA (b := b126) h rfl (Wl.getA (b := b127) h rfl (Wi.call (fn17 (h.rd (cs := [u1, u2, u3, u4]) (x := p)) (h.rd (cs := [w1, w2, w3, w4]) (x := q)) hp.w hq.w fun H es f => ?_)))
  obtain ⟨e1, e2, e3, e4, rfl, _⟩ := hasPrg f.read
  have h := h.add f
  have ke := (h.rd (cs := [e1, e2, e3, e4]) (r := RPrg) (x := (apRes p q).1)).cell
  simp only [gw]
  refine Wl.new h fun H b139 h => Wl.putA (b := b139) (i := 0) h rfl rfl ke fun H h => Wi.neqC (fun g => absurd rfl g) fun _ => ?_
  simp only [gw]
  refine Wl.getA (b := b133) h rfl (Wl.getA (b := b139) h rfl (Wi.call (fn9 (h.rd (cs := [d1, d2, d3, d4]) (x := (apRes p q).1)) (h.rd (cs := [e1, e2, e3, e4]) (x := (apRes p q).1)) fun H l => ?_)))
  have hc := hc.le (h.to l).le
  clear h l
  simp only [gw]
  -- rays
  refine Wi.call (fn18 hc fun H1 u1 u2 u3 u4 p vx x vu u f hp hx hu => ?_)
  have h := (Loc.start H).add2 (r := RPrg) (s := Rd.pair RS RS) (c1 := [u1, u2, u3, u4]) (c2 := [vx, vu]) rfl f
  have h := (h.front 1 rfl).unpair (r := RS) (s := RS) (c1 := [vx]) (c2 := [vu]) (x := x) (y := u) rfl
  have h : Ab.Loc H [.data RS [vx] x, .data RS [vu] u, .data RPrg [u1, u2, u3, u4] p] H1 := h
  have kp := (h.rd (cs := [u1, u2, u3, u4]) (r := RPrg) (x := p)).cell
  simp only [gw]
  refine Wl.new h fun H2 b150 h => Wl.putA (b := b150) (i := 0) h rfl rfl kp fun H2 h => ?_
  refine Wl.getA (b := b150) h rfl (Wi.call (fn19 (h.rd (cs := [u1, u2, u3, u4]) (x := p)) (h.rd (cs := [vx]) (x := x)) (h.rd (cs := [vu]) (x := u)) hp.w (by omega) (by omega) fun H2 l => ?_))
  have h := h.to l
  simp only [gw]
  refine Wl.new h fun H2 b156 h => Wl.new h fun H2 b157 h => Wl.putA (b := b156) (i := 1) h rfl rfl rfl fun H2 h => Wl.putA (b := b157) (i := 0) h rfl rfl rfl fun H2 h => ?_
  refine Wl.getA (b := b150) h rfl (Wi.call (fn20 (h.rd (cs := [u1, u2, u3, u4]) (x := p)) (h.rd (cs := [vx]) (x := x)) (h.rd (cs := [vu]) (x := u)) hp.w (by omega) (by omega) fun H2 l => ?_))
  have h := h.to l
  simp only [gw]
  have i1 : I64 (laRes p x u).1.1 ∧ I64 (laRes p x u).1.2 ∧ I64 (laRes p x u).2.1.1 ∧ I64 (laRes p x u).2.1.2 := by
    have z : I64 0 := by unfold I64; omega
    unfold laRes
    split
    · split
      · split
        · split
          · exact ⟨(fracT_i64 _ _).1, (fracT_i64 _ _).2, (fracT_i64 _ _).1, (fracT_i64 _ _).2⟩
          · exact ⟨z, z, z, z⟩
        · exact ⟨z, z, z, z⟩
      · exact ⟨z, z, z, z⟩
    · exact ⟨z, z, z, z⟩
  refine Wl.new h fun H2 b163 h => Wl.new h fun H2 b164 h => Wl.putA (b := b163) (i := 1) h rfl rfl rfl fun H2 h => Wl.putA (b := b164) (i := 0) h rfl rfl rfl fun H2 h => Wi.neqC (fun g => absurd rfl g) fun _ => ?_
  simp only [gw]
  refine Wl.getA (b := b156) h rfl (Wl.getA (b := b163) h rfl (Wi.nePair ⟨i1.1, i1.2.1⟩ ⟨i1.1, i1.2.1⟩ ?_))
  rw [decide_eq_true rfl]
  simp only [gw, Bool.not_true]
  refine Wl.getA (b := b157) h rfl (Wl.getA (b := b164) h rfl (Wi.nePair ⟨i1.2.2.1, i1.2.2.2⟩ ⟨i1.2.2.1, i1.2.2.2⟩ ?_))
  rw [decide_eq_true rfl]
  simp only [gw, Bool.not_true]
  refine Wi.eqlC (fun hla => Wi.tru ?_) fun _ => Wi.fls rfl
  have h : Ab.Loc H [.box b164 (frC (laRes p x u).2.1), .box b163 (frC (laRes p x u).1), .box b157 (frC (laRes p x u).2.1), .box b156 (frC (laRes p x u).1), .box b150 [u1, u2, u3, u4], .data RS [vx] x, .data RS [vu] u, .data RPrg [u1, u2, u3, u4] p] H2 := h
  refine Wl.lit0 (ty := 34) RFrac rfl h.tl.tl fun H2 w h => ?_
  refine W.for_rule x.length (fun j st H2 => ∃ w, st = (w, .int .i64 (j : Nat), ()) ∧ Ab.Loc H [.grow RFrac 34 w ((x.take j).map fun n => ((n, 1) : Frac)), .box b157 (frC (laRes p x u).2.1), .box b156 (frC (laRes p x u).1), .box b150 [u1, u2, u3, u4], .data RS [vx] x, .data RS [vu] u, .data RPrg [u1, u2, u3, u4] p] H2) ⟨w, rfl, h⟩ ?_
  rintro j st H2 J hj ⟨w, rfl, h⟩ hJ
  refine Wl.len (v := vx) (xs := x) h (Wi.lssC (fun hlt => Wi.tru ?_) fun hge => Wi.fls ?_)
  · have hjx : j < x.length := by omega
    refine Wl.atInt (v := vx) (xs := x) (i := j) h hjx fun ix => Wi.build (cells := frC (x[j], 1)) rfl ?_
    refine Wl.pushP (r := RFrac) (x := ((x[j], 1) : Frac)) (i := 0) rfl rfl rfl (frac_rel ⟨ix, by show I64 1; unfold I64; decide⟩) h (by simp; omega) fun H2 w' h => Wi.add (by unfold I64; omega) (hJ _ _ hjx ⟨w', rfl, ?_⟩)
    rw [List.take_succ_eq_append_getElem hjx, List.map_append]
    exact h
  · have hjx : j = x.length := by omega
    subst hjx
    rw [List.take_length] at h
    have h := h.asData (i := 0) rfl
    have h : Ab.Loc H [.data RFS [w] (x.map fun n => ((n, 1) : Frac)), .box b157 (frC (laRes p x u).2.1), .box b156 (frC (laRes p x u).1), .box b150 [u1, u2, u3, u4], .data RS [vx] x, .data RS [vu] u, .data RPrg [u1, u2, u3, u4] p] H2 := h
    refine Wl.getA (b := b150) h rfl (Wi.call (fn21 (h.rd (cs := [u1, u2, u3, u4]) (x := p)) (h.rd (cs := [w])) hp.w (by rw [List.length_map]; omega) fun H2 l => ?_))
    have h := h.to l
    simp only [gw]
    refine Wl.new h fun H2 b188 h => Wl.putA (b := b188) (i := 0) h rfl rfl rfl fun H2 h => ?_
    unfold f3.j4 f3.j5
    refine Wi.eqlC (fun hva => Wi.tru ?_) fun _ => Wi.fls rfl
    obtain ⟨g1, g2, g3, g4⟩ := la_cmp hla hva
    refine Wl.getA (b := b157) h rfl (Wl.getA (b := b188) h rfl (Wi.call (fn22 g1 g2 fun H2 l => ?_)))
    have h := h.to l
    simp only [gw]
    refine Wi.neqC (fun g => absurd rfl g) fun _ => ?_
    simp only [gw]
    refine Wi.gtrC (fun g => absurd g g3) fun _ => ?_
    simp only [gw]
    by_cases ht : (laRes p x u).1.1 = 0
    · refine Wi.eqlC (fun _ => ?_) fun g => absurd (g4.2 ht) g
      refine Wi.fieldAddr0 (Wl.get (b := b156) h rfl (Wi.eqlC (fun _ => ?_) fun g => absurd ht g))
      refine Wi.neqBool ?_
      simp only [gw, beq_self_eq_true, Bool.not_true]
    · refine Wi.eqlC (fun g => absurd (g4.1 g) ht) fun _ => ?_
      refine Wi.fieldAddr0 (Wl.get (b := b156) h rfl (Wi.eqlC (fun g => absurd g ht) fun _ => ?_))
      refine Wi.neqBool ?_
      simp only [gw, beq_self_eq_true, Bool.not_true]

/-- Scaled programs. -/
theorem du_j1 {H0 : Heap} {v0 : Value} {x0 : List Int} (hc : Has RBytes H0 [v0] x0) : f3.j1 qT v0 H0 := by
  unfold f3.j1 f3.j2
  refine Wi.call (fn11 hc fun H u1 u2 u3 u4 p k f hp hk => ?_)
  have h := (Loc.start H0).add f
  have kp := (h.rd (cs := [u1, u2, u3, u4]) (r := RPrg) (x := p)).cell
  simp only [gw]
  refine Wl.new h fun H b76 h => Wl.putA (b := b76) (i := 0) h rfl rfl kp fun H h => ?_
  refine Wl.getA (b := b76) h rfl (Wi.call (fn12 (h.rd (cs := [u1, u2, u3, u4]) (x := p)) hk hp.w fun H ds f => ?_))
  obtain ⟨d1, d2, d3, d4, rfl, _⟩ := hasPrg f.read
  have h := h.add f
  have kd := (h.rd (cs := [d1, d2, d3, d4]) (r := RPrg) (x := (spRes p k).1)).cell
  simp only [gw]
  refine Wl.new h fun H b81 h => Wl.putA (b := b81) (i := 0) h rfl rfl kd fun H h => Wl.getA (b := b76) h rfl (Wi.call (fn13 (h.rd (cs := [u1, u2, u3, u4]) (x := p)) hk hp.w fun H es f => ?_))
  obtain ⟨e1, e2, e3, e4, rfl, _⟩ := hasPrg f.read
  have h := h.add f
  have ke := (h.rd (cs := [e1, e2, e3, e4]) (r := RPrg) (x := (spRes p k).1)).cell
  simp only [gw]
  refine Wl.new h fun H b86 h => Wl.putA (b := b86) (i := 0) h rfl rfl ke fun H h => Wi.neqC (fun g => absurd rfl g) fun _ => ?_
  simp only [gw]
  refine Wl.getA (b := b81) h rfl (Wl.getA (b := b86) h rfl (Wi.call (fn9 (h.rd (cs := [d1, d2, d3, d4]) (x := (spRes p k).1)) (h.rd (cs := [e1, e2, e3, e4]) (x := (spRes p k).1)) fun H l => ?_)))
  have h := h.to l
  have h : Ab.Loc H0 [.box b86 [e1, e2, e3, e4], .data RPrg [e1, e2, e3, e4] (spRes p k).1, .box b81 [d1, d2, d3, d4], .data RPrg [d1, d2, d3, d4] (spRes p k).1, .box b76 [u1, u2, u3, u4], .data RPrg [u1, u2, u3, u4] p] H := h
  have h := h.tl.tl
  simp only [gw]
  refine Wi.eqlC (fun hsp => Wi.tru ?_) fun _ => Wi.fls (du_j3 (hc.le h.le))
  obtain ⟨q1, q2, q3, q4⟩ := sp_zero hsp
  refine Wl.getA (b := b76) h rfl (Wi.call (fn10 (h.rd (cs := [u1, u2, u3, u4]) (x := p)) hp.w fun H y1 y2 f => ?_))
  have h := h.to f.le
  simp only [gw]
  refine Wl.new h fun H b100 h => Wl.putA (b := b100) (i := 0) h rfl rfl rfl fun H h => ?_
  refine Wl.getA (b := b81) h rfl (Wi.call (fn10 (h.rd (cs := [d1, d2, d3, d4]) (x := (spRes p k).1)) (by rw [q4]; exact q3.w) fun H y1 y2 f => ?_))
  have h := h.to f.le
  simp only [gw]
  refine Wl.new h fun H b107 h => Wl.putA (b := b107) (i := 0) h rfl rfl rfl fun H h => ?_
  refine Wi.eqlC (fun h1 => ?_) fun _ => ?_
  · simp only [gw]
    refine Wi.eqlC (fun h2 => ?_) fun _ => ?_
    · simp only [gw]
      have hf : isFr 1000000000 (moRes p).2.2.1 = true := by
        obtain ⟨_, s, _, _, _, _, _, s5, sv⟩ := mo_zero h1
        rw [sv]
        exact (fracT_good s5).1
      have hkf : isFr 1000000000 ((k, 1) : Frac) = true := isFr_iff.2 ⟨⟨by show (1 : Int) ≤ 1; decide, by show (1 : Int) ≤ 1000000000; decide⟩, ⟨by have := q2.1; show -1000000000 ≤ k; omega, by have := q2.2; show k ≤ 1000000000; omega⟩, by show Int.gcd k 1 = 1; simp⟩
      refine Wl.getA (b := b100) h rfl (Wi.build (cells := frC (k, 1)) rfl (Wi.call (fn14 (b := (k, 1)) hf hkf fun H l => ?_)))
      have h := h.to l
      simp only [gw]
      refine Wl.new h fun H b117 h => Wl.putA (b := b117) (i := 0) h rfl rfl rfl fun H h => ?_
      refine Wi.eqlC (fun h3 => ?_) fun _ => ?_
      · simp only [gw]
        obtain ⟨_, e⟩ := sp_val hsp h1 h2 h3
        have i2 := fracT_i64 ((moRes p).2.2.1.1 * k) ((moRes p).2.2.1.2 * 1)
        refine Wl.getA (b := b117) h rfl (Wl.getA (b := b107) h rfl ?_)
        rw [← e]
        refine Wi.nePair i2 i2 ?_
        rw [decide_eq_true rfl]
        simp only [gw, Bool.not_true]
        exact du_j3 (hc.le h.le)
      · simp only [gw]
        exact du_j3 (hc.le h.le)
    · simp only [gw]
      exact du_j3 (hc.le h.le)
  · simp only [gw]
    exact du_j3 (hc.le h.le)

theorem law3 {H0 : Heap} {bs0 : List Nat} {v0 : Value} {x0 : List Int} (hr0 : RBytes.rel H0 bs0 [v0] x0) : Runs Tryz.prog 3 #[v0] H0 (fun v _ => v = .bool true) := by
  have hc : Has RBytes H0 [v0] x0 := ⟨bs0, hr0⟩
  refine f3.enter ?_
  unfold f3.w
  refine Wi.call (f5.enter (Wl.lenH hc ?_))
  generalize (4096 : Int) = top
  refine Wi.gtrC (fun _ => Wi.tru rfl) fun _ => Wi.fls ?_
  refine Wi.call (fn6 hc fun H u1 u2 u3 u4 p f hp => ?_)
  have h := (Loc.start H0).add f
  have kp := (h.rd (cs := [u1, u2, u3, u4]) (r := RPrg) (x := p)).cell
  refine Wl.new h fun H b3 h => Wl.putA (b := b3) (i := 0) h rfl rfl kp fun H h => ?_
  refine Wl.getA (b := b3) h rfl (Wi.call (fn7 (h.rd (cs := [u1, u2, u3, u4]) (x := p)) hp.w fun H ds f => ?_))
  obtain ⟨d1, d2, d3, d4, rfl, _⟩ := hasPrg f.read
  have h := h.add f
  have kd := (h.rd (cs := [d1, d2, d3, d4]) (r := RPrg) (x := (dpRes p).1)).cell
  simp only [gw]
  refine Wl.new h fun H b8 h => Wl.putA (b := b8) (i := 0) h rfl rfl kd fun H h => Wl.getA (b := b3) h rfl (Wi.call (fn8 (h.rd (cs := [u1, u2, u3, u4]) (x := p)) hp.w fun H es f => ?_))
  obtain ⟨e1, e2, e3, e4, rfl, _⟩ := hasPrg f.read
  have h := h.add f
  have ke := (h.rd (cs := [e1, e2, e3, e4]) (r := RPrg) (x := (dpRes p).1)).cell
  simp only [gw]
  refine Wl.new h fun H b13 h => Wl.putA (b := b13) (i := 0) h rfl rfl ke fun H h => Wi.neqC (fun g => absurd rfl g) fun _ => ?_
  simp only [gw]
  refine Wl.getA (b := b8) h rfl (Wl.getA (b := b13) h rfl (Wi.call (fn9 (h.rd (cs := [d1, d2, d3, d4]) (x := (dpRes p).1)) (h.rd (cs := [e1, e2, e3, e4]) (x := (dpRes p).1)) fun H l => ?_)))
  have h := h.to l
  have h : Ab.Loc H0 [.box b13 [e1, e2, e3, e4], .data RPrg [e1, e2, e3, e4] (dpRes p).1, .box b8 [d1, d2, d3, d4], .data RPrg [d1, d2, d3, d4] (dpRes p).1, .box b3 [u1, u2, u3, u4], .data RPrg [u1, u2, u3, u4] p] H := h
  have h := h.tl.tl
  simp only [gw]
  refine Wi.eqlC (fun hdp => Wi.tru ?_) fun _ => Wi.fls (du_j1 (hc.le h.le))
  obtain ⟨q1, q2, q3, q4⟩ := dp_zero hdp
  have hdw : wPrg (dpRes p).1 ≤ 1048576 := by rw [q4]; exact (dual_prg q1 q3).w
  refine Wl.getA (b := b3) h rfl (Wi.call (fn10 (h.rd (cs := [u1, u2, u3, u4]) (x := p)) hp.w fun H y1 y2 f => ?_))
  have h := h.to f.le
  simp only [gw]
  refine Wl.new h fun H b27 h => Wl.putA (b := b27) (i := 0) h rfl rfl rfl fun H h => ?_
  refine Wl.getA (b := b8) h rfl (Wi.call (fn10 (h.rd (cs := [d1, d2, d3, d4]) (x := (dpRes p).1)) hdw fun H y1 y2 f => ?_))
  have h := h.to f.le
  simp only [gw]
  refine Wl.new h fun H b34 h => Wl.putA (b := b34) (i := 0) h rfl rfl rfl fun H h => ?_
  have h : Ab.Loc H0 [.box b34 (frC (moRes (dpRes p).1).2.2.1), .box b27 (frC (moRes p).2.2.1), .box b8 [d1, d2, d3, d4], .data RPrg [d1, d2, d3, d4] (dpRes p).1, .box b3 [u1, u2, u3, u4], .data RPrg [u1, u2, u3, u4] p] H := h
  have herr := dp_err hdp
  have hval := dp_val hdp
  have hb4 : isFr 1000000000 (moRes (dpRes p).1).2.2.1 = true ∨ (moRes (dpRes p).1).2.2.2 ≠ 0 := by
    by_cases h4 : (moRes (dpRes p).1).2.2.2 = 0
    · obtain ⟨_, s, _, _, _, _, _, s5, sv⟩ := mo_zero h4
      exact .inl (by rw [sv]; exact (fracT_good s5).1)
    · exact .inr h4
  generalize hM1 : moRes p = M1 at *
  generalize hM2 : moRes (dpRes p).1 = M2 at *
  by_cases h3 : M1.2.2.2 = 0
  · by_cases h4 : M2.2.2.2 = 0
    · obtain ⟨v1, v2⟩ := hval h3 h4
      have hfr := hb4.resolve_right fun g => g h4
      have hneg := (isFr_iff.1 hfr).2.1
      refine Wi.eqlC (fun _ => ?_) fun g => absurd h3 g
      refine Wi.eqlC (fun _ => ?_) fun g => absurd h4 g
      refine Wi.neqBool ?_
      simp only [gw, beq_self_eq_true, Bool.not_true]
      refine Wi.eqlC (fun _ => ?_) fun g => absurd h3 g
      simp only [gw]
      refine Wi.eqlC (fun _ => ?_) fun g => absurd h4 g
      simp only [gw]
      refine Wi.fieldAddr0 (Wl.get (b := b27) h rfl (Wi.fieldAddr0 (Wl.get (b := b34) h rfl (Wi.neg (by unfold I64; omega) (Wi.neqC (fun g => absurd v1 g) fun _ => ?_)))))
      simp only [gw]
      refine Wi.fieldAddr (Wl.get (b := b27) (o := 1) h rfl (Wi.fieldAddr (Wl.get (b := b34) (o := 1) h rfl (Wi.neqC (fun g => absurd v2 g) fun _ => ?_))))
      simp only [gw]
      refine Wl.getA (b := b8) h rfl (Wi.call (fn7 (h.rd (cs := [d1, d2, d3, d4]) (x := (dpRes p).1)) hdw fun H gs f => ?_))
      rw [dp_back hdp] at f ⊢
      obtain ⟨g1, g2, g3, g4, rfl, _⟩ := hasPrg f.read
      have h := h.add f
      have kg := (h.rd (cs := [g1, g2, g3, g4]) (r := RPrg) (x := p)).cell
      simp only [gw]
      refine Wl.new h fun H b66 h => Wl.putA (b := b66) (i := 0) h rfl rfl kg fun H h => Wi.neqC (fun g => absurd rfl g) fun _ => ?_
      simp only [gw]
      refine Wl.getA (b := b66) h rfl (Wl.getA (b := b3) h rfl (Wi.call (fn9 (h.rd (cs := [g1, g2, g3, g4]) (x := p)) (h.rd (cs := [u1, u2, u3, u4]) (x := p)) fun H l => ?_)))
      simp only [gw]
      exact du_j1 (hc.le (h.to l).le)
    · have e4 : M2.2.2.2 = 3 ∨ M1.2.2.2 = 3 := by
        by_cases g1 : M2.2.2.2 = 3
        · exact .inl g1
        · by_cases g2 : M1.2.2.2 = 3
          · exact .inr g2
          · exact absurd ((herr g2 g1).1 h3) h4
      have e4 : M2.2.2.2 = 3 := e4.elim id fun g => by omega
      refine Wi.eqlC (fun _ => ?_) fun g => absurd h3 g
      refine Wi.eqlC (fun g => absurd g h4) fun _ => ?_
      refine Wi.neqBool ?_
      simp only [gw, Bool.true_beq, Bool.not_false]
      refine Wi.neqC (fun _ => ?_) fun g => by omega
      simp only [gw]
      refine Wi.neqC (fun g => absurd e4 g) fun _ => ?_
      simp only [gw]
      refine Wi.eqlC (fun _ => ?_) fun g => absurd h3 g
      simp only [gw]
      refine Wi.eqlC (fun g => absurd g h4) fun _ => ?_
      simp only [gw]
      refine Wl.getA (b := b8) h rfl (Wi.call (fn7 (h.rd (cs := [d1, d2, d3, d4]) (x := (dpRes p).1)) hdw fun H gs f => ?_))
      rw [dp_back hdp] at f ⊢
      obtain ⟨g1, g2, g3, g4, rfl, _⟩ := hasPrg f.read
      have h := h.add f
      have kg := (h.rd (cs := [g1, g2, g3, g4]) (r := RPrg) (x := p)).cell
      simp only [gw]
      refine Wl.new h fun H b66 h => Wl.putA (b := b66) (i := 0) h rfl rfl kg fun H h => Wi.neqC (fun g => absurd rfl g) fun _ => ?_
      simp only [gw]
      refine Wl.getA (b := b66) h rfl (Wl.getA (b := b3) h rfl (Wi.call (fn9 (h.rd (cs := [g1, g2, g3, g4]) (x := p)) (h.rd (cs := [u1, u2, u3, u4]) (x := p)) fun H l => ?_)))
      simp only [gw]
      exact du_j1 (hc.le (h.to l).le)
  · refine Wi.eqlC (fun g => absurd g h3) fun _ => ?_
    by_cases h4 : M2.2.2.2 = 0
    · have e3 : M1.2.2.2 = 3 := by
        by_cases g2 : M1.2.2.2 = 3
        · exact g2
        · exact absurd ((herr g2 (by omega)).2 h4) h3
      refine Wi.eqlC (fun _ => ?_) fun g => absurd h4 g
      refine Wi.neqBool ?_
      simp only [gw, Bool.false_beq, Bool.not_true, Bool.not_false]
      refine Wi.neqC (fun g => absurd e3 g) fun _ => ?_
      simp only [gw]
      refine Wi.eqlC (fun g => absurd g h3) fun _ => ?_
      simp only [gw]
      refine Wl.getA (b := b8) h rfl (Wi.call (fn7 (h.rd (cs := [d1, d2, d3, d4]) (x := (dpRes p).1)) hdw fun H gs f => ?_))
      rw [dp_back hdp] at f ⊢
      obtain ⟨g1, g2, g3, g4, rfl, _⟩ := hasPrg f.read
      have h := h.add f
      have kg := (h.rd (cs := [g1, g2, g3, g4]) (r := RPrg) (x := p)).cell
      simp only [gw]
      refine Wl.new h fun H b66 h => Wl.putA (b := b66) (i := 0) h rfl rfl kg fun H h => Wi.neqC (fun g => absurd rfl g) fun _ => ?_
      simp only [gw]
      refine Wl.getA (b := b66) h rfl (Wl.getA (b := b3) h rfl (Wi.call (fn9 (h.rd (cs := [g1, g2, g3, g4]) (x := p)) (h.rd (cs := [u1, u2, u3, u4]) (x := p)) fun H l => ?_)))
      simp only [gw]
      exact du_j1 (hc.le (h.to l).le)
    · refine Wi.eqlC (fun g => absurd g h4) fun _ => ?_
      refine Wi.neqBool ?_
      simp only [gw, beq_self_eq_true, Bool.not_true]
      refine Wi.eqlC (fun g => absurd g h3) fun _ => ?_
      simp only [gw]
      refine Wl.getA (b := b8) h rfl (Wi.call (fn7 (h.rd (cs := [d1, d2, d3, d4]) (x := (dpRes p).1)) hdw fun H gs f => ?_))
      rw [dp_back hdp] at f ⊢
      obtain ⟨g1, g2, g3, g4, rfl, _⟩ := hasPrg f.read
      have h := h.add f
      have kg := (h.rd (cs := [g1, g2, g3, g4]) (r := RPrg) (x := p)).cell
      simp only [gw]
      refine Wl.new h fun H b66 h => Wl.putA (b := b66) (i := 0) h rfl rfl kg fun H h => Wi.neqC (fun g => absurd rfl g) fun _ => ?_
      simp only [gw]
      refine Wl.getA (b := b66) h rfl (Wl.getA (b := b3) h rfl (Wi.call (fn9 (h.rd (cs := [g1, g2, g3, g4]) (x := p)) (h.rd (cs := [u1, u2, u3, u4]) (x := p)) fun H l => ?_)))
      simp only [gw]
      exact du_j1 (hc.le (h.to l).le)

end Go.Proofs.YtdchibdcfdbcpaaGreat
