import Derived.Test.YtfjempfffdeklaaDoorTT0
namespace Go.Proofs.YtfjempfffdeklaaDoor
open Go.RowKit

set_option maxRecDepth 1000000 in
set_option maxHeartbeats 8000000 in
theorem tt_note (w wr : World) (hold now last : Int) (gt ot gn on gz oz tl nl zl ct cn cz bt k cw : Nat) (t : Bool) (xa xn z : Int) (aw : Option Addr) (want : List Nt) (hb : Hid (∀ W : World, Fr (fun _ => False) w W → W.cell? ⟨gt, ot + k, none⟩ = some (.bool t) ∧ W.cell? ⟨gn, on + k * 2, none⟩ = some (.int .u32 xa) ∧ W.cell? ⟨gn, on + k * 2 + 1, none⟩ = some (.int .i64 xn) ∧ W.cell? ⟨gz, oz + k, none⟩ = some (.int .i64 z))) (hx2 : 0 ≤ xa ∧ xa < 4294967296) (h1 : k < tl) (h2 : k < nl) (h3 : k < zl) (hlt : tl ≤ 9223372036854775806) (hln : nl ≤ 9223372036854775806) (hlz : zl ≤ 9223372036854775806) (hF : Fr (fun _ => False) w wr) (ht : t ≠ true) (hg : Hd w) (E3 : Int) (L : List Nt) (ob obw : Option Nat) (HE3 : Hid (E3 = eC t (eB (eA t xa xn) now z) want ⟨xa, xn⟩)) (hI2 : NInv w wr bt hold now last L ob aw cw want want obw) {Q : Exit → Act → World → Prop} (u4 u5 u6 u7 u8 u9 u11 u13 u18 u19 u20 u21 u22 u23 u24 u25 u26 u27 u28 u29 u30 u31 u32 u33 u34 u35 u36 u37 u38 u39 u40 u41 u42 u43 u44 u45 u46 u47 u48 u49 u50 u51 u52 u53 u54 u55 u56 u57 u58 u59 u60 u61 u62 u63 u64 u65 u66 u67 u68 u69 u70 u71 u72 u73 u74 u75 u76 u77 u78 u79 u80 u81 u82 u83 u84 u85 u86 u87 u88 u89 u90 u91 u92 u93 u94 u95 u96 u97 u98 u99 u100 u101 u102 u103 u104 u105 u106 u107 u108 u109 u110 u111 u112 u113 u114 u115 u116 u117 u118 u119 u120 u121 u122 u123 u124 u125 u126 u127 u128 u129 u130 u131 u132 u133 u134 u135 u136 u137 u138 u139 u140 u141 u142 u143 u144 u145 u146 u147 u148 u149 u150 u151 u152 u153 u154 u155 u156 u157 u158 u159 u160 u161 u162 u163 u164 u165 u166 u167 u168 u169 u170 u171 u172 u173 u174 u175 u176 u177 u178 u179 u180 u181 u182 u183 u184 u185 u186 u187 u188 u189 u190 u191 u192 u193 u194 u195 u196 u197 u198 u199 u200 u201 u202 u203 u204 u205 u206 u207 u208 u209 u210 u211 u212 u213 u214 u215 u216 u217 u218 u219 u220 u221 u222 u223 u224 u225 u226 u227 u228 u229 u230 u231 u232 u233 u234 u235 u236 u237 u238 u239 u240 u241 : Value)
    (hQ : ∀ (v4 v5 v6 v7 v8 v9 v11 v18 v19 v20 v21 v22 v23 v24 v25 v26 v27 v28 v29 v30 v31 v32 v33 v34 v35 v36 v37 v38 v39 v40 v41 v42 v43 v44 v45 v46 v47 v48 v49 v50 v51 v52 v53 v54 v55 v56 v57 v58 v59 v60 v61 v62 v63 v64 v65 v66 v67 v68 v69 v70 v71 v72 v73 v74 v75 v76 v77 v78 v79 v80 v81 v82 v83 v84 v85 v86 v87 v88 v89 v90 v91 v92 v93 v94 v95 v96 v97 v98 v99 v100 v101 v102 v103 v104 v105 v106 v107 v108 v109 v110 v111 v112 v113 v114 v115 v116 v117 v118 v119 v120 v121 v122 v123 v124 v125 v126 v127 v128 v129 v130 v131 v132 v133 v134 v135 v136 v137 v138 v139 v140 v141 v142 v143 v144 v145 v146 v147 v148 v149 v150 v151 v152 v153 v154 v155 v156 v157 v158 v159 v160 v161 v162 v163 v164 v165 v166 v167 v168 v169 v170 v171 v172 v173 v174 v175 v176 v177 v178 v179 v180 v181 v182 v183 v184 v185 v186 v187 v188 v189 v190 v191 v192 v193 v194 v195 v196 v197 v198 v199 v200 v201 v202 v203 v204 v205 v206 v207 v208 v209 v210 v211 v212 v213 v214 v215 v216 v217 v218 v219 v220 v221 v222 v223 v224 v225 v226 v227 v228 v229 v230 v231 v232 v233 v234 v235 v236 v237 v238 v239 v240 v241 : Value), ∀ (wc : World) (last' : Int) (L' : List Nt) (ob' : Option Nat) (aw' : Option Addr) (cw' : Nat) (want' : List Nt) (obw' : Option Nat), NInv w wc bt hold (if E3 = 0 then z else now) last' L' ob' aw' cw' want' want' obw' → Q .normal ⟨#[.int .i64 hold, .slice (some ⟨gt, ot, none⟩) tl ct, .slice (some ⟨gn, on, none⟩) nl cn, .slice (some ⟨gz, oz, none⟩) zl cz, v4, v5, v6, v7, v8, v9, .pointer (some ⟨bt, 0, none⟩), v11, .int .i64 E3, .bool true, .int .i64 now, .int .i64 last', .slice aw' want'.length cw', .int .i64 k, v18, v19, v20, v21, v22, v23, v24, v25, v26, v27, v28, v29, v30, v31, v32, v33, v34, v35, v36, v37, v38, v39, v40, v41, v42, v43, v44, v45, v46, v47, v48, v49, v50, v51, v52, v53, v54, v55, v56, v57, v58, v59, v60, v61, v62, v63, v64, v65, v66, v67, v68, v69, v70, v71, v72, v73, v74, v75, v76, v77, v78, v79, v80, v81, v82, v83, v84, v85, v86, v87, v88, v89, v90, v91, v92, v93, v94, v95, v96, v97, v98, v99, v100, v101, v102, v103, v104, v105, v106, v107, v108, v109, v110, v111, v112, v113, v114, v115, v116, v117, v118, v119, v120, v121, v122, v123, v124, v125, v126, v127, v128, v129, v130, v131, v132, v133, v134, v135, v136, v137, v138, v139, v140, v141, v142, v143, v144, v145, v146, v147, v148, v149, v150, v151, v152, v153, v154, v155, v156, v157, v158, v159, v160, v161, v162, v163, v164, v165, v166, v167, v168, v169, v170, v171, v172, v173, v174, v175, v176, v177, v178, v179, v180, v181, v182, v183, v184, v185, v186, v187, v188, v189, v190, v191, v192, v193, v194, v195, v196, v197, v198, v199, v200, v201, v202, v203, v204, v205, v206, v207, v208, v209, v210, v211, v212, v213, v214, v215, v216, v217, v218, v219, v220, v221, v222, v223, v224, v225, v226, v227, v228, v229, v230, v231, v232, v233, v234, v235, v236, v237, v238, v239, v240, v241], []⟩ wc) :
    (ttB.stm 4).wp Tryd.prog Q ⟨#[.int .i64 hold, .slice (some ⟨gt, ot, none⟩) tl ct, .slice (some ⟨gn, on, none⟩) nl cn, .slice (some ⟨gz, oz, none⟩) zl cz, u4, u5, u6, u7, u8, u9, .pointer (some ⟨bt, 0, none⟩), u11, .int .i64 E3, u13, .int .i64 now, .int .i64 last, .slice aw want.length cw, .int .i64 k, u18, u19, u20, u21, u22, u23, u24, u25, u26, u27, u28, u29, u30, u31, u32, u33, u34, u35, u36, u37, u38, u39, u40, u41, u42, u43, u44, u45, u46, u47, u48, u49, u50, u51, u52, u53, u54, u55, u56, u57, u58, u59, u60, u61, u62, u63, u64, u65, u66, u67, u68, u69, u70, u71, u72, u73, u74, u75, u76, u77, u78, u79, u80, u81, u82, u83, u84, u85, u86, u87, u88, u89, u90, u91, u92, u93, u94, u95, u96, u97, u98, u99, u100, u101, u102, u103, u104, u105, u106, u107, u108, u109, u110, u111, u112, u113, u114, u115, u116, u117, u118, u119, u120, u121, u122, u123, u124, u125, u126, u127, u128, u129, u130, u131, u132, u133, u134, u135, u136, u137, u138, u139, u140, u141, u142, u143, u144, u145, u146, u147, u148, u149, u150, u151, u152, u153, u154, u155, u156, u157, u158, u159, u160, u161, u162, u163, u164, u165, u166, u167, u168, u169, u170, u171, u172, u173, u174, u175, u176, u177, u178, u179, u180, u181, u182, u183, u184, u185, u186, u187, u188, u189, u190, u191, u192, u193, u194, u195, u196, u197, u198, u199, u200, u201, u202, u203, u204, u205, u206, u207, u208, u209, u210, u211, u212, u213, u214, u215, u216, u217, u218, u219, u220, u221, u222, u223, u224, u225, u226, u227, u228, u229, u230, u231, u232, u233, u234, u235, u236, u237, u238, u239, u240, u241], []⟩ wr := by
  have HQ := Lib.hid hQ
  clear hQ
  have hlen := hI2.len
  have q3 := hI2.ok.l0
  have q4 := hI2.ok.l1
  have q5 := hI2.ok.n0
  have q6 := hI2.ok.n1
  obtain ⟨et, f0, f1, ez⟩ := hb.out wr hI2.fr
  conv => arg 2; whnf
  cases t with
  | true => exact absurd rfl ht
  | false =>
    have hI3 := hI2.fr0 ((Fr.refl (fun _ => False) wr).drew)
    have hen := e_note (z := z) (x := ⟨xa, xn⟩) (now := now) hI2.ok.srt hI2.eq hI2.ok.len
    rw [← HE3.out] at hen
    cases hno : noteE now L ⟨xa, xn⟩ z with
    | error q =>
      obtain ⟨hq, hq0⟩ := hen.1 q hno
      subst hq
      have HQ0 := Lib.hid hq0
      have HNO := Lib.hid hno
      have e0 : (E3 == 0) = false := by simp [hq0]
      clear hen hno hq0
      as_aux_lemma =>
      go_wp2
      (refine wp_region_mix (AnyW) 11 (by kernel_rfl) (by kernel_rfl) (AnyW.mk _) ?_; simp only [List.take_succ_cons, List.take_zero, List.drop_succ_cons, List.drop_zero])
      (refine wpMix_earlyN 9 (by kernel_rfl) (by kernel_rfl) ?_; simp only [List.take_succ_cons, List.take_zero, List.drop_succ_cons, List.drop_zero]; (repeat (go_big_quiet_step (fail))); refine wpQuiet_nil ?_)
      refine wpMix_eff (by kernel_rfl) ?_
      go_wp2_with (fail)
      refine (note_any _ hI3.trig hI3.ok ⟨xa, xn⟩ z hx2).mono ?_
      intro e5 v5 R5
      obtain ⟨rfl, hF5⟩ := R5.errE HNO.out
      try dsimp only
      have hI5 := hI3.fr0 hF5
      clear hI2 hI3 hF5 R5 et f0 f1 ez
      go_wp2
      first | refine ⟨AnyW.mk _, ?_⟩ | refine ⟨rfl, rfl, AnyW.mk _, ?_⟩
      (refine wpMix_lateN 1 (AnyW.mk _) (by kernel_rfl) ?_; simp only [List.take_succ_cons, List.take_zero, List.drop_succ_cons, List.drop_zero]; (repeat (go_big_quiet_step (fail))); refine wpQuiet_nil ?_)
      refine wpMix_nil ?_
      go_wp2_with (fail)
      refine (error_any (some E3) E3 _ (hg.none hI5.fr)).mono ?_
      rintro e6 v6_ ⟨rfl, hF6⟩
      try dsimp only
      rw [show (errN (some E3) == E3) = true from by simp [errN]]
      have hI6 := hI5.fr0 hF6
      clear hI5 hF6
      go_wp2
      exact HQ.out _ _ _ _ _ _ _ _ _ _ _ _ _ _ _ _ _ _ _ _ _ _ _ _ _ _ _ _ _ _ _ _ _ _ _ _ _ _ _ _ _ _ _ _ _ _ _ _ _ _ _ _ _ _ _ _ _ _ _ _ _ _ _ _ _ _ _ _ _ _ _ _ _ _ _ _ _ _ _ _ _ _ _ _ _ _ _ _ _ _ _ _ _ _ _ _ _ _ _ _ _ _ _ _ _ _ _ _ _ _ _ _ _ _ _ _ _ _ _ _ _ _ _ _ _ _ _ _ _ _ _ _ _ _ _ _ _ _ _ _ _ _ _ _ _ _ _ _ _ _ _ _ _ _ _ _ _ _ _ _ _ _ _ _ _ _ _ _ _ _ _ _ _ _ _ _ _ _ _ _ _ _ _ _ _ _ _ _ _ _ _ _ _ _ _ _ _ _ _ _ _ _ _ _ _ _ _ _ _ _ _ _ _ _ _ _ _ _ _ _ _ _ _ _ _ _ _ _ _ _ _ _ (last) (L) (ob) (aw) (cw) (want) (obw) (by rw [if_neg HQ0.out]; exact hI6)
    | ok L' =>
      have hE0 := hen.2 L' hno
      subst hE0
      have HNO := Lib.hid hno
      clear hen hno
      as_aux_lemma =>
      go_wp2
      (refine wp_region_mix (AnyW) 11 (by kernel_rfl) (by kernel_rfl) (AnyW.mk _) ?_; simp only [List.take_succ_cons, List.take_zero, List.drop_succ_cons, List.drop_zero])
      (refine wpMix_earlyN 9 (by kernel_rfl) (by kernel_rfl) ?_; simp only [List.take_succ_cons, List.take_zero, List.drop_succ_cons, List.drop_zero]; (repeat (go_big_quiet_step (fail))); refine wpQuiet_nil ?_)
      refine wpMix_eff (by kernel_rfl) ?_
      go_wp2_with (fail)
      refine (note_any _ hI3.trig hI3.ok ⟨xa, xn⟩ z hx2).mono ?_
      intro e5 v5 R5
      obtain ⟨rfl, ob5, hT5, hF5, hN5⟩ := R5.okE HNO.out
      dsimp only
      have hI5 := hI3.note hx2 HNO.out hT5 hF5 hN5
      clear hI2 hI3 hF5 hT5 hN5 R5 et f0 f1 ez
      go_wp2
      first | refine ⟨AnyW.mk _, ?_⟩ | refine ⟨rfl, rfl, AnyW.mk _, ?_⟩
      (refine wpMix_lateN 1 (AnyW.mk _) (by kernel_rfl) ?_; simp only [List.take_succ_cons, List.take_zero, List.drop_succ_cons, List.drop_zero]; (repeat (go_big_quiet_step (fail))); refine wpQuiet_nil ?_)
      refine wpMix_nil ?_
      go_wp2_with (fail)
      refine (error_any none 0 _ (hg.none hI5.fr)).mono ?_
      rintro e6 v6_ ⟨rfl, hF6⟩
      try dsimp only
      rw [show (errN none == 0) = true from rfl]
      have hI6 := hI5.fr0 hF6
      clear hI5 hF6
      obtain ⟨et, f0, f1, ez⟩ := hb.out v6_ hI6.fr
      go_wp2_with (fail)
      refine (places_any want ⟨xa, xn⟩ aw cw _ hI6.own.rd (by omega) rfl).mono ?_
      rintro e7 v7_ ⟨p, rfl, hF7, hp, -, -⟩
      try dsimp only
      have hI7 := hI6.fr0 hF7
      clear hI6 hF7 et f0 f1 ez
      obtain ⟨et, f0, f1, ez⟩ := hb.out v7_ hI7.fr
      by_cases hm : (⟨xa, xn⟩ : Nt) ∈ want
      · have hp7 : ¬ p < 0 := fun h => hp.1 h hm
        rw [if_pos hm] at hI7
        clear hp hm
        go_wp2
        exact HQ.out _ _ _ _ _ _ _ _ _ _ _ _ _ _ _ _ _ _ _ _ _ _ _ _ _ _ _ _ _ _ _ _ _ _ _ _ _ _ _ _ _ _ _ _ _ _ _ _ _ _ _ _ _ _ _ _ _ _ _ _ _ _ _ _ _ _ _ _ _ _ _ _ _ _ _ _ _ _ _ _ _ _ _ _ _ _ _ _ _ _ _ _ _ _ _ _ _ _ _ _ _ _ _ _ _ _ _ _ _ _ _ _ _ _ _ _ _ _ _ _ _ _ _ _ _ _ _ _ _ _ _ _ _ _ _ _ _ _ _ _ _ _ _ _ _ _ _ _ _ _ _ _ _ _ _ _ _ _ _ _ _ _ _ _ _ _ _ _ _ _ _ _ _ _ _ _ _ _ _ _ _ _ _ _ _ _ _ _ _ _ _ _ _ _ _ _ _ _ _ _ _ _ _ _ _ _ _ _ _ _ _ _ _ _ _ _ _ _ _ _ _ _ _ _ _ _ _ _ _ _ _ _ (last) (L') (ob5) (aw) (cw) (want) (obw) (by rw [if_pos rfl]; exact hI7)
      · have hp7 : p < 0 := hp.2 hm
        rw [if_neg hm] at hI7
        have hrd := rd_lit v7_ 37 [.int .u32 xa, .int .i64 xn]
        clear hp hm
        go_wp2_with (at_builtin; refine wpList_app rfl _ _ 65 rfl Tryd.underlying65 infoNt rfl (by decide) rfl rfl (hI7.own.alloc _) hrd (by simp [Value.oneCell']) (by omega) (by omega) ?_)
        intro a8 c8 v8_ ob8 v1 v2 v3
        have hI8 := hI7.app _ ⟨xa, xn⟩ v1 v2 (by simpa using v3)
        clear v1 v2 v3 hI7 hrd et f0 f1 ez
        go_wp2
        rw [show want.length + 1 = (want ++ [(⟨xa, xn⟩ : Nt)]).length by simp]
        exact HQ.out _ _ _ _ _ _ _ _ _ _ _ _ _ _ _ _ _ _ _ _ _ _ _ _ _ _ _ _ _ _ _ _ _ _ _ _ _ _ _ _ _ _ _ _ _ _ _ _ _ _ _ _ _ _ _ _ _ _ _ _ _ _ _ _ _ _ _ _ _ _ _ _ _ _ _ _ _ _ _ _ _ _ _ _ _ _ _ _ _ _ _ _ _ _ _ _ _ _ _ _ _ _ _ _ _ _ _ _ _ _ _ _ _ _ _ _ _ _ _ _ _ _ _ _ _ _ _ _ _ _ _ _ _ _ _ _ _ _ _ _ _ _ _ _ _ _ _ _ _ _ _ _ _ _ _ _ _ _ _ _ _ _ _ _ _ _ _ _ _ _ _ _ _ _ _ _ _ _ _ _ _ _ _ _ _ _ _ _ _ _ _ _ _ _ _ _ _ _ _ _ _ _ _ _ _ _ _ _ _ _ _ _ _ _ _ _ _ _ _ _ _ _ _ _ _ _ _ _ _ _ _ _ (last) (L') (ob5) (a8) (c8) (want ++ [⟨xa, xn⟩]) (ob8) (by rw [if_pos rfl]; exact hI8)

end Go.Proofs.YtfjempfffdeklaaDoor
