import Derived.Test.YtfjempfffdeklaaDoorTT0
namespace Go.Proofs.YtfjempfffdeklaaDoor
open Go.RowKit

set_option maxRecDepth 1000000 in
set_option maxHeartbeats 8000000 in
theorem tt_take (w wr : World) (hold now last : Int) (gt ot gn on gz oz tl nl zl ct cn cz bt k cw : Nat) (t : Bool) (xa xn z : Int) (aw : Option Addr) (want : List Nt) (hb : Hid (∀ W : World, Fr (fun _ => False) w W → W.cell? ⟨gt, ot + k, none⟩ = some (.bool t) ∧ W.cell? ⟨gn, on + k * 2, none⟩ = some (.int .u32 xa) ∧ W.cell? ⟨gn, on + k * 2 + 1, none⟩ = some (.int .i64 xn) ∧ W.cell? ⟨gz, oz + k, none⟩ = some (.int .i64 z))) (hx2 : 0 ≤ xa ∧ xa < 4294967296) (h1 : k < tl) (h2 : k < nl) (h3 : k < zl) (hlt : tl ≤ 9223372036854775806) (hln : nl ≤ 9223372036854775806) (hlz : zl ≤ 9223372036854775806) (hF : Fr (fun _ => False) w wr) (ht : t = true) (hg : Hd w) (E3 : Int) (L : List Nt) (ob obw : Option Nat) (HE3 : Hid (E3 = eC t (eB (eA t xa xn) now z) want ⟨xa, xn⟩)) (hI2 : NInv w wr bt hold now last L ob aw cw want want obw) {Q : Exit → Act → World → Prop} (u4 u5 u6 u7 u8 u9 u11 u13 u18 u19 u20 u21 u22 u23 u24 u25 u26 u27 u28 u29 u30 u31 u32 u33 u34 u35 u36 u37 u38 u39 u40 u41 u42 u43 u44 u45 u46 u47 u48 u49 u50 u51 u52 u53 u54 u55 u56 u57 u58 u59 u60 u61 u62 u63 u64 u65 u66 u67 u68 u69 u70 u71 u72 u73 u74 u75 u76 u77 u78 u79 u80 u81 u82 u83 u84 u85 u86 u87 u88 u89 u90 u91 u92 u93 u94 u95 u96 u97 u98 u99 u100 u101 u102 u103 u104 u105 u106 u107 u108 u109 u110 u111 u112 u113 u114 u115 u116 u117 u118 u119 u120 u121 u122 u123 u124 u125 u126 u127 u128 u129 u130 u131 u132 u133 u134 u135 u136 u137 u138 u139 u140 u141 u142 u143 u144 u145 u146 u147 u148 u149 u150 u151 u152 u153 u154 u155 u156 u157 u158 u159 u160 u161 u162 u163 u164 u165 u166 u167 u168 u169 u170 u171 u172 u173 u174 u175 u176 u177 u178 u179 u180 u181 u182 u183 u184 u185 u186 u187 u188 u189 u190 u191 u192 u193 u194 u195 u196 u197 u198 u199 u200 u201 u202 u203 u204 u205 u206 u207 u208 u209 u210 u211 u212 u213 u214 u215 u216 u217 u218 u219 u220 u221 u222 u223 u224 u225 u226 u227 u228 u229 u230 u231 u232 u233 u234 u235 u236 u237 u238 u239 u240 u241 : Value)
    (hQ : ∀ (v4 v5 v6 v7 v8 v9 v11 v18 v19 v20 v21 v22 v23 v24 v25 v26 v27 v28 v29 v30 v31 v32 v33 v34 v35 v36 v37 v38 v39 v40 v41 v42 v43 v44 v45 v46 v47 v48 v49 v50 v51 v52 v53 v54 v55 v56 v57 v58 v59 v60 v61 v62 v63 v64 v65 v66 v67 v68 v69 v70 v71 v72 v73 v74 v75 v76 v77 v78 v79 v80 v81 v82 v83 v84 v85 v86 v87 v88 v89 v90 v91 v92 v93 v94 v95 v96 v97 v98 v99 v100 v101 v102 v103 v104 v105 v106 v107 v108 v109 v110 v111 v112 v113 v114 v115 v116 v117 v118 v119 v120 v121 v122 v123 v124 v125 v126 v127 v128 v129 v130 v131 v132 v133 v134 v135 v136 v137 v138 v139 v140 v141 v142 v143 v144 v145 v146 v147 v148 v149 v150 v151 v152 v153 v154 v155 v156 v157 v158 v159 v160 v161 v162 v163 v164 v165 v166 v167 v168 v169 v170 v171 v172 v173 v174 v175 v176 v177 v178 v179 v180 v181 v182 v183 v184 v185 v186 v187 v188 v189 v190 v191 v192 v193 v194 v195 v196 v197 v198 v199 v200 v201 v202 v203 v204 v205 v206 v207 v208 v209 v210 v211 v212 v213 v214 v215 v216 v217 v218 v219 v220 v221 v222 v223 v224 v225 v226 v227 v228 v229 v230 v231 v232 v233 v234 v235 v236 v237 v238 v239 v240 v241 : Value), ∀ (wc : World) (last' : Int) (L' : List Nt) (ob' : Option Nat) (aw' : Option Addr) (cw' : Nat) (want' : List Nt) (obw' : Option Nat), NInv w wc bt hold (if E3 = 0 then z else now) last' L' ob' aw' cw' want' want' obw' → Q .normal ⟨#[.int .i64 hold, .slice (some ⟨gt, ot, none⟩) tl ct, .slice (some ⟨gn, on, none⟩) nl cn, .slice (some ⟨gz, oz, none⟩) zl cz, v4, v5, v6, v7, v8, v9, .pointer (some ⟨bt, 0, none⟩), v11, .int .i64 E3, .bool true, .int .i64 now, .int .i64 last', .slice aw' want'.length cw', .int .i64 k, v18, v19, v20, v21, v22, v23, v24, v25, v26, v27, v28, v29, v30, v31, v32, v33, v34, v35, v36, v37, v38, v39, v40, v41, v42, v43, v44, v45, v46, v47, v48, v49, v50, v51, v52, v53, v54, v55, v56, v57, v58, v59, v60, v61, v62, v63, v64, v65, v66, v67, v68, v69, v70, v71, v72, v73, v74, v75, v76, v77, v78, v79, v80, v81, v82, v83, v84, v85, v86, v87, v88, v89, v90, v91, v92, v93, v94, v95, v96, v97, v98, v99, v100, v101, v102, v103, v104, v105, v106, v107, v108, v109, v110, v111, v112, v113, v114, v115, v116, v117, v118, v119, v120, v121, v122, v123, v124, v125, v126, v127, v128, v129, v130, v131, v132, v133, v134, v135, v136, v137, v138, v139, v140, v141, v142, v143, v144, v145, v146, v147, v148, v149, v150, v151, v152, v153, v154, v155, v156, v157, v158, v159, v160, v161, v162, v163, v164, v165, v166, v167, v168, v169, v170, v171, v172, v173, v174, v175, v176, v177, v178, v179, v180, v181, v182, v183, v184, v185, v186, v187, v188, v189, v190, v191, v192, v193, v194, v195, v196, v197, v198, v199, v200, v201, v202, v203, v204, v205, v206, v207, v208, v209, v210, v211, v212, v213, v214, v215, v216, v217, v218, v219, v220, v221, v222, v223, v224, v225, v226, v227, v228, v229, v230, v231, v232, v233, v234, v235, v236, v237, v238, v239, v240, v241], []⟩ wc) :
    (ttB.stm 4).wp Tryd.prog Q ⟨#[.int .i64 hold, .slice (some ⟨gt, ot, none⟩) tl ct, .slice (some ⟨gn, on, none⟩) nl cn, .slice (some ⟨gz, oz, none⟩) zl cz, u4, u5, u6, u7, u8, u9, .pointer (some ⟨bt, 0, none⟩), u11, .int .i64 E3, u13, .int .i64 now, .int .i64 last, .slice aw want.length cw, .int .i64 k, u18, u19, u20, u21, u22, u23, u24, u25, u26, u27, u28, u29, u30, u31, u32, u33, u34, u35, u36, u37, u38, u39, u40, u41, u42, u43, u44, u45, u46, u47, u48, u49, u50, u51, u52, u53, u54, u55, u56, u57, u58, u59, u60, u61, u62, u63, u64, u65, u66, u67, u68, u69, u70, u71, u72, u73, u74, u75, u76, u77, u78, u79, u80, u81, u82, u83, u84, u85, u86, u87, u88, u89, u90, u91, u92, u93, u94, u95, u96, u97, u98, u99, u100, u101, u102, u103, u104, u105, u106, u107, u108, u109, u110, u111, u112, u113, u114, u115, u116, u117, u118, u119, u120, u121, u122, u123, u124, u125, u126, u127, u128, u129, u130, u131, u132, u133, u134, u135, u136, u137, u138, u139, u140, u141, u142, u143, u144, u145, u146, u147, u148, u149, u150, u151, u152, u153, u154, u155, u156, u157, u158, u159, u160, u161, u162, u163, u164, u165, u166, u167, u168, u169, u170, u171, u172, u173, u174, u175, u176, u177, u178, u179, u180, u181, u182, u183, u184, u185, u186, u187, u188, u189, u190, u191, u192, u193, u194, u195, u196, u197, u198, u199, u200, u201, u202, u203, u204, u205, u206, u207, u208, u209, u210, u211, u212, u213, u214, u215, u216, u217, u218, u219, u220, u221, u222, u223, u224, u225, u226, u227, u228, u229, u230, u231, u232, u233, u234, u235, u236, u237, u238, u239, u240, u241], []⟩ wr := by
  have HQ := Lib.hid hQ
  clear hQ
  have hlen := hI2.len
  have q3 := hI2.ok.l0
  have q4 := hI2.ok.l1
  have q5 := hI2.ok.n0
  have q6 := hI2.ok.n1
  obtain ⟨et, f0, f1, ez⟩ := hb.out wr hI2.fr
  conv => arg 2; whnf
  cases t with
  | false => cases ht
  | true =>
    have hE := HE3.out.trans (e_take now z want ⟨xa, xn⟩)
    by_cases hte : tkErr now z
    · rw [if_pos hte] at hE
      subst hE
      have HTE := Lib.hid hte
      clear hte
      as_aux_lemma =>
      go_wp2_with (fail)
      refine (take_err wr hI2.trig z HTE.out).mono ?_
      rintro e1 v1 ⟨rfl, hw1⟩
      try dsimp only
      obtain rfl : wr = v1 := hw1
      go_wp2_with (fail)
      refine (error_any (some 1) 1 _ (hg.none hI2.fr)).mono ?_
      rintro e3 v3_ ⟨rfl, hF3⟩
      try dsimp only
      rw [show (errN (some 1) == 1) = true from by simp [errN]]
      go_wp2_with (fail)
      refine (snets_any [] [] none none 0 0 _ (Rd.nil _ _ _) (Rd.nil _ _ _) (by simp) (by simp) rfl rfl).mono ?_
      rintro e4 v4_ ⟨rfl, n4, hw4⟩
      try dsimp only
      have hI4 : NInv w v4_ bt hold now last L ob aw cw want want obw := (hI2.fr0 hF3).fr0 (by rw [hw4]; exact (Fr.refl _ _).drewN n4)
      clear hw4
      rw [decide_eq_true rfl]
      go_wp2
      exact HQ.out _ _ _ _ _ _ _ _ _ _ _ _ _ _ _ _ _ _ _ _ _ _ _ _ _ _ _ _ _ _ _ _ _ _ _ _ _ _ _ _ _ _ _ _ _ _ _ _ _ _ _ _ _ _ _ _ _ _ _ _ _ _ _ _ _ _ _ _ _ _ _ _ _ _ _ _ _ _ _ _ _ _ _ _ _ _ _ _ _ _ _ _ _ _ _ _ _ _ _ _ _ _ _ _ _ _ _ _ _ _ _ _ _ _ _ _ _ _ _ _ _ _ _ _ _ _ _ _ _ _ _ _ _ _ _ _ _ _ _ _ _ _ _ _ _ _ _ _ _ _ _ _ _ _ _ _ _ _ _ _ _ _ _ _ _ _ _ _ _ _ _ _ _ _ _ _ _ _ _ _ _ _ _ _ _ _ _ _ _ _ _ _ _ _ _ _ _ _ _ _ _ _ _ _ _ _ _ _ _ _ _ _ _ _ _ _ _ _ _ _ _ _ _ _ _ _ _ _ _ _ _ _ (last) (L) (ob) (aw) (cw) (want) (obw) (by rw [if_neg (by decide)]; exact hI4)
    · rw [if_neg hte] at hE
      subst hE
      have HTE := Lib.hid hte
      obtain ⟨z1, z2⟩ : now ≤ z ∧ z ≤ 1099511627776 := by unfold tkErr at hte; omega
      clear hte
      by_cases hw0 : want = []
      · subst hw0
        obtain rfl : L = [] := hI2.eq
        as_aux_lemma =>
        go_wp2_with (fail)
        refine (take_nil wr hI2.trig z HTE.out).mono ?_
        rintro e1 v1 ⟨rfl, hT1, hF1⟩
        dsimp only
        have hI1 := hI2.wait hT1 (hI2.ok.tm HTE.out) hF1
        clear hT1 hF1
        go_wp2_with (fail)
        refine (error_any none 0 _ (hg.none hI1.fr)).mono ?_
        rintro e3 v3_ ⟨rfl, hF3⟩
        try dsimp only
        rw [show (errN none == 0) = true from rfl]
        go_wp2_with (fail)
        refine (snets_any [] [] none none 0 0 _ (Rd.nil _ _ _) (Rd.nil _ _ _) (by simp) (by simp) rfl rfl).mono ?_
        rintro e4 v4_ ⟨rfl, n4, hw4⟩
        try dsimp only
        have hI4 : NInv w v4_ bt hold z last [] ob aw cw [] [] obw := (hI1.fr0 hF3).fr0 (by rw [hw4]; exact (Fr.refl _ _).drewN n4)
        clear hw4
        rw [decide_eq_true rfl]
        go_wp2
        exact HQ.out _ _ _ _ _ _ _ _ _ _ _ _ _ _ _ _ _ _ _ _ _ _ _ _ _ _ _ _ _ _ _ _ _ _ _ _ _ _ _ _ _ _ _ _ _ _ _ _ _ _ _ _ _ _ _ _ _ _ _ _ _ _ _ _ _ _ _ _ _ _ _ _ _ _ _ _ _ _ _ _ _ _ _ _ _ _ _ _ _ _ _ _ _ _ _ _ _ _ _ _ _ _ _ _ _ _ _ _ _ _ _ _ _ _ _ _ _ _ _ _ _ _ _ _ _ _ _ _ _ _ _ _ _ _ _ _ _ _ _ _ _ _ _ _ _ _ _ _ _ _ _ _ _ _ _ _ _ _ _ _ _ _ _ _ _ _ _ _ _ _ _ _ _ _ _ _ _ _ _ _ _ _ _ _ _ _ _ _ _ _ _ _ _ _ _ _ _ _ _ _ _ _ _ _ _ _ _ _ _ _ _ _ _ _ _ _ _ _ _ _ _ _ _ _ _ _ _ _ _ _ _ _ (last) ([]) (ob) (aw) (cw) ([]) (obw) (by rw [if_pos rfl]; exact hI4)
      · have HW0 := Lib.hid hw0
        have hwp : 0 < want.length := pos_ne hw0
        have HLN := Lib.hid (hI2.ne hw0)
        clear hw0
        by_cases hd : z < dueAt hold z last
        · obtain ⟨u0, u1, u2⟩ : 0 ≤ last ∧ z < last + hold ∧ z - last < hold := by
            unfold dueAt at hd
            split at hd
            · omega
            · split at hd <;> omega
          have HD := Lib.hid hd
          clear hd
          as_aux_lemma =>
          go_wp2_with (fail)
          refine (take_wait wr hI2.trig hI2.ok z HTE.out HLN.out HD.out).mono ?_
          rintro e1 v1 ⟨rfl, hT1, hF1⟩
          dsimp only
          have hI1 := hI2.wait hT1 (hI2.ok.tm HTE.out) hF1
          clear hT1 hF1
          go_wp2_with (fail)
          refine (error_any none 0 _ (hg.none hI1.fr)).mono ?_
          rintro e3 v3_ ⟨rfl, hF3⟩
          try dsimp only
          rw [show (errN none == 0) = true from rfl]
          go_wp2_with (fail)
          refine (snets_any [] [] none none 0 0 _ (Rd.nil _ _ _) (Rd.nil _ _ _) (by simp) (by simp) rfl rfl).mono ?_
          rintro e4 v4_ ⟨rfl, n4, hw4⟩
          try dsimp only
          have hI4 : NInv w v4_ bt hold z last L ob aw cw want want obw := (hI1.fr0 hF3).fr0 (by rw [hw4]; exact (Fr.refl _ _).drewN n4)
          clear hw4
          rw [decide_eq_true rfl]
          go_wp2
          exact HQ.out _ _ _ _ _ _ _ _ _ _ _ _ _ _ _ _ _ _ _ _ _ _ _ _ _ _ _ _ _ _ _ _ _ _ _ _ _ _ _ _ _ _ _ _ _ _ _ _ _ _ _ _ _ _ _ _ _ _ _ _ _ _ _ _ _ _ _ _ _ _ _ _ _ _ _ _ _ _ _ _ _ _ _ _ _ _ _ _ _ _ _ _ _ _ _ _ _ _ _ _ _ _ _ _ _ _ _ _ _ _ _ _ _ _ _ _ _ _ _ _ _ _ _ _ _ _ _ _ _ _ _ _ _ _ _ _ _ _ _ _ _ _ _ _ _ _ _ _ _ _ _ _ _ _ _ _ _ _ _ _ _ _ _ _ _ _ _ _ _ _ _ _ _ _ _ _ _ _ _ _ _ _ _ _ _ _ _ _ _ _ _ _ _ _ _ _ _ _ _ _ _ _ _ _ _ _ _ _ _ _ _ _ _ _ _ _ _ _ _ _ _ _ _ _ _ _ _ _ _ _ _ _ (last) (L) (ob) (aw) (cw) (want) (obw) (by rw [if_pos rfl]; exact hI4)
        · have u3 : last < 0 ∨ (0 ≤ last ∧ hold ≤ z - last) := by
            unfold dueAt at hd
            split at hd
            · exact .inl (by assumption)
            · split at hd
              · omega
              · exact .inr ⟨by omega, by omega⟩
          have HD := Lib.hid hd
          clear hd
          rcases u3 with u0 | ⟨u0, u1⟩
          all_goals
            as_aux_lemma =>
            go_wp2_with (fail)
            refine (ordered_any want aw cw wr hI2.own.rd (by omega) rfl).mono ?_
            rintro e1 v1 ⟨a1, c1, o1, rfl, hO1, hF1, hN1⟩
            try dsimp only
            have hI1 := hI2.fr0 hF1
            have hbl : bt < wr.heap.size := by obtain ⟨_, _, hh, _⟩ := hI2.trig; exact hh.lt
            clear hI2 hF1 et f0 f1 ez
            obtain ⟨et, f0, f1, ez⟩ := hb.out v1 hI1.fr
            go_wp2_with (fail)
            refine (take_all _ hI1.trig hI1.ok z HTE.out HLN.out (by have := HD.out; omega)).mono ?_
            rintro e5 v5 ⟨a2, c2, rfl, hO2, hT2, hF2, -⟩
            dsimp only
            have hO12 := hO1.fr hF2 (fun g hg h => by have := hN1 g hg; omega)
            have hEq := Lib.hid (decide_eq_true hI1.eq)
            have hLl := hI1.ok.len
            have hI5 := hI1.taken hT2 (hI1.ok.took HTE.out) hF2
            clear hI1 hT2 hF2 hO1 hN1
            go_wp2_with (fail)
            refine (error_any none 0 _ (hg.none hI5.fr)).mono ?_
            rintro e3 v3_ ⟨rfl, hF3⟩
            try dsimp only
            rw [show (errN none == 0) = true from rfl]
            have hr2 := (hO2.fr hF3 (fun _ _ h => h)).rd
            have hr1 := (hO12.fr hF3 (fun _ _ h => h)).rd
            rw [← ordered_len want] at hr1
            clear hO2 hO12
            go_wp2_with (fail)
            refine (snets_any L (ordered want) a2 a1 c2 c1 _ hr2 hr1 (by omega) (by rw [ordered_len]; omega) rfl (ordered_len want).symm).mono ?_
            rintro e4 v4_ ⟨rfl, n4, hw4⟩
            try dsimp only
            have hI4 : NInv w v4_ bt hold z z [] none none 0 [] [] none := (hI5.fr0 hF3).fr0 (by rw [hw4]; exact (Fr.refl _ _).drewN n4)
            clear hw4 hr1 hr2
            rw [hEq.out]
            go_wp2
            exact HQ.out _ _ _ _ _ _ _ _ _ _ _ _ _ _ _ _ _ _ _ _ _ _ _ _ _ _ _ _ _ _ _ _ _ _ _ _ _ _ _ _ _ _ _ _ _ _ _ _ _ _ _ _ _ _ _ _ _ _ _ _ _ _ _ _ _ _ _ _ _ _ _ _ _ _ _ _ _ _ _ _ _ _ _ _ _ _ _ _ _ _ _ _ _ _ _ _ _ _ _ _ _ _ _ _ _ _ _ _ _ _ _ _ _ _ _ _ _ _ _ _ _ _ _ _ _ _ _ _ _ _ _ _ _ _ _ _ _ _ _ _ _ _ _ _ _ _ _ _ _ _ _ _ _ _ _ _ _ _ _ _ _ _ _ _ _ _ _ _ _ _ _ _ _ _ _ _ _ _ _ _ _ _ _ _ _ _ _ _ _ _ _ _ _ _ _ _ _ _ _ _ _ _ _ _ _ _ _ _ _ _ _ _ _ _ _ _ _ _ _ _ _ _ _ _ _ _ _ _ _ _ _ _ (z) ([]) (none) (none) (0) ([]) (none) (by rw [if_pos rfl]; exact hI4)

end Go.Proofs.YtfjempfffdeklaaDoor
