import Derived.Test.YtfjempfffdeklaaDoorTT4
namespace Go.Proofs.YtfjempfffdeklaaDoor
open Go.RowKit

set_option maxRecDepth 1000000 in
set_option maxHeartbeats 8000000 in
theorem tt_loop (w : World) (hg : Hd w) (hold : Int) (tk : List Bool) (ns : List Nt) (zs : List Int) (at_ an az : Option Addr) (ct cn cz bt : Nat) (HT : Recs w.heap at_ 1 bcells tk) (HN : Recs w.heap an 2 Nt.cells ns) (HNW : ∀ x ∈ ns, Nt.wf x) (HZ : Ints w.heap az zs)
    (hlt : tk.length ≤ 9223372036854775806) (hln : ns.length ≤ 9223372036854775806) (hlz : zs.length ≤ 9223372036854775806) (wr : World) (k cw : Nat) (now last : Int) (L : List Nt) (ob obw : Option Nat) (aw : Option Addr) (want : List Nt) (hk : k ≤ tk.length) (hN : NInv w wr bt hold now last L ob aw cw want want obw) {Q0 : Exit → Act → World → Prop}
    (u4 u5 u6 u7 u8 u9 u11 u12 u13 u18 u19 u20 u21 u22 u23 u24 u25 u26 u27 u28 u29 u30 u31 u32 u33 u34 u35 u36 u37 u38 u39 u40 u41 u42 u43 u44 u45 u46 u47 u48 u49 u50 u51 u52 u53 u54 u55 u56 u57 u58 u59 u60 u61 u62 u63 u64 u65 u66 u67 u68 u69 u70 u71 u72 u73 u74 u75 u76 u77 u78 u79 u80 u81 u82 u83 u84 u85 u86 u87 u88 u89 u90 u91 u92 u93 u94 u95 u96 u97 u98 u99 u100 u101 u102 u103 u104 u105 u106 u107 u108 u109 u110 u111 u112 u113 u114 u115 u116 u117 u118 u119 u120 u121 u122 u123 u124 u125 u126 u127 u128 u129 u130 u131 u132 u133 u134 u135 u136 u137 u138 u139 u140 u141 u142 u143 u144 u145 u146 u147 u148 u149 u150 u151 u152 u153 u154 u155 u156 u157 u158 u159 u160 u161 u162 u163 u164 u165 u166 u167 u168 u169 u170 u171 u172 u173 u174 u175 u176 u177 u178 u179 u180 u181 u182 u183 u184 u185 u186 u187 u188 u189 u190 u191 u192 u193 u194 u195 u196 u197 u198 u199 u200 u201 u202 u203 u204 u205 u206 u207 u208 u209 u210 u211 u212 u213 u214 u215 u216 u217 u218 u219 u220 u221 u222 u223 u224 u225 u226 u227 u228 u229 u230 u231 u232 u233 u234 u235 u236 u237 u238 u239 u240 u241 : Value)
    (hexit : ∀ (wc : World) (k cw : Nat) (now last : Int) (aw : Option Addr) (want : List Nt) (v4 v5 v6 v7 v8 v9 v11 v12 v13 v18 v19 v20 v21 v22 v23 v24 v25 v26 v27 v28 v29 v30 v31 v32 v33 v34 v35 v36 v37 v38 v39 v40 v41 v42 v43 v44 v45 v46 v47 v48 v49 v50 v51 v52 v53 v54 v55 v56 v57 v58 v59 v60 v61 v62 v63 v64 v65 v66 v67 v68 v69 v70 v71 v72 v73 v74 v75 v76 v77 v78 v79 v80 v81 v82 v83 v84 v85 v86 v87 v88 v89 v90 v91 v92 v93 v94 v95 v96 v97 v98 v99 v100 v101 v102 v103 v104 v105 v106 v107 v108 v109 v110 v111 v112 v113 v114 v115 v116 v117 v118 v119 v120 v121 v122 v123 v124 v125 v126 v127 v128 v129 v130 v131 v132 v133 v134 v135 v136 v137 v138 v139 v140 v141 v142 v143 v144 v145 v146 v147 v148 v149 v150 v151 v152 v153 v154 v155 v156 v157 v158 v159 v160 v161 v162 v163 v164 v165 v166 v167 v168 v169 v170 v171 v172 v173 v174 v175 v176 v177 v178 v179 v180 v181 v182 v183 v184 v185 v186 v187 v188 v189 v190 v191 v192 v193 v194 v195 v196 v197 v198 v199 v200 v201 v202 v203 v204 v205 v206 v207 v208 v209 v210 v211 v212 v213 v214 v215 v216 v217 v218 v219 v220 v221 v222 v223 v224 v225 v226 v227 v228 v229 v230 v231 v232 v233 v234 v235 v236 v237 v238 v239 v240 v241 : Value), Fr (fun _ => False) w wc → Q0 (.exit 0) ⟨#[.int .i64 hold, .slice at_ tk.length ct, .slice an ns.length cn, .slice az zs.length cz, v4, v5, v6, v7, v8, v9, .pointer (some ⟨bt, 0, none⟩), v11, v12, v13, .int .i64 now, .int .i64 last, .slice aw want.length cw, .int .i64 k, v18, v19, v20, v21, v22, v23, v24, v25, v26, v27, v28, v29, v30, v31, v32, v33, v34, v35, v36, v37, v38, v39, v40, v41, v42, v43, v44, v45, v46, v47, v48, v49, v50, v51, v52, v53, v54, v55, v56, v57, v58, v59, v60, v61, v62, v63, v64, v65, v66, v67, v68, v69, v70, v71, v72, v73, v74, v75, v76, v77, v78, v79, v80, v81, v82, v83, v84, v85, v86, v87, v88, v89, v90, v91, v92, v93, v94, v95, v96, v97, v98, v99, v100, v101, v102, v103, v104, v105, v106, v107, v108, v109, v110, v111, v112, v113, v114, v115, v116, v117, v118, v119, v120, v121, v122, v123, v124, v125, v126, v127, v128, v129, v130, v131, v132, v133, v134, v135, v136, v137, v138, v139, v140, v141, v142, v143, v144, v145, v146, v147, v148, v149, v150, v151, v152, v153, v154, v155, v156, v157, v158, v159, v160, v161, v162, v163, v164, v165, v166, v167, v168, v169, v170, v171, v172, v173, v174, v175, v176, v177, v178, v179, v180, v181, v182, v183, v184, v185, v186, v187, v188, v189, v190, v191, v192, v193, v194, v195, v196, v197, v198, v199, v200, v201, v202, v203, v204, v205, v206, v207, v208, v209, v210, v211, v212, v213, v214, v215, v216, v217, v218, v219, v220, v221, v222, v223, v224, v225, v226, v227, v228, v229, v230, v231, v232, v233, v234, v235, v236, v237, v238, v239, v240, v241], []⟩ wc) :
    (Code.loop ttL).wp Tryd.prog Q0 ⟨#[.int .i64 hold, .slice at_ tk.length ct, .slice an ns.length cn, .slice az zs.length cz, u4, u5, u6, u7, u8, u9, .pointer (some ⟨bt, 0, none⟩), u11, u12, u13, .int .i64 now, .int .i64 last, .slice aw want.length cw, .int .i64 k, u18, u19, u20, u21, u22, u23, u24, u25, u26, u27, u28, u29, u30, u31, u32, u33, u34, u35, u36, u37, u38, u39, u40, u41, u42, u43, u44, u45, u46, u47, u48, u49, u50, u51, u52, u53, u54, u55, u56, u57, u58, u59, u60, u61, u62, u63, u64, u65, u66, u67, u68, u69, u70, u71, u72, u73, u74, u75, u76, u77, u78, u79, u80, u81, u82, u83, u84, u85, u86, u87, u88, u89, u90, u91, u92, u93, u94, u95, u96, u97, u98, u99, u100, u101, u102, u103, u104, u105, u106, u107, u108, u109, u110, u111, u112, u113, u114, u115, u116, u117, u118, u119, u120, u121, u122, u123, u124, u125, u126, u127, u128, u129, u130, u131, u132, u133, u134, u135, u136, u137, u138, u139, u140, u141, u142, u143, u144, u145, u146, u147, u148, u149, u150, u151, u152, u153, u154, u155, u156, u157, u158, u159, u160, u161, u162, u163, u164, u165, u166, u167, u168, u169, u170, u171, u172, u173, u174, u175, u176, u177, u178, u179, u180, u181, u182, u183, u184, u185, u186, u187, u188, u189, u190, u191, u192, u193, u194, u195, u196, u197, u198, u199, u200, u201, u202, u203, u204, u205, u206, u207, u208, u209, u210, u211, u212, u213, u214, u215, u216, u217, u218, u219, u220, u221, u222, u223, u224, u225, u226, u227, u228, u229, u230, u231, u232, u233, u234, u235, u236, u237, u238, u239, u240, u241], []⟩ wr :=
  wp_loop (ttI w hold at_ an az tk.length ns.length zs.length ct cn cz bt) (fun a _ => ttM tk.length a) ⟨k, now, last, L, ob, aw, cw, want, obw, hk, hN, u4, u5, u6, u7, u8, u9, u11, u12, u13, u18, u19, u20, u21, u22, u23, u24, u25, u26, u27, u28, u29, u30, u31, u32, u33, u34, u35, u36, u37, u38, u39, u40, u41, u42, u43, u44, u45, u46, u47, u48, u49, u50, u51, u52, u53, u54, u55, u56, u57, u58, u59, u60, u61, u62, u63, u64, u65, u66, u67, u68, u69, u70, u71, u72, u73, u74, u75, u76, u77, u78, u79, u80, u81, u82, u83, u84, u85, u86, u87, u88, u89, u90, u91, u92, u93, u94, u95, u96, u97, u98, u99, u100, u101, u102, u103, u104, u105, u106, u107, u108, u109, u110, u111, u112, u113, u114, u115, u116, u117, u118, u119, u120, u121, u122, u123, u124, u125, u126, u127, u128, u129, u130, u131, u132, u133, u134, u135, u136, u137, u138, u139, u140, u141, u142, u143, u144, u145, u146, u147, u148, u149, u150, u151, u152, u153, u154, u155, u156, u157, u158, u159, u160, u161, u162, u163, u164, u165, u166, u167, u168, u169, u170, u171, u172, u173, u174, u175, u176, u177, u178, u179, u180, u181, u182, u183, u184, u185, u186, u187, u188, u189, u190, u191, u192, u193, u194, u195, u196, u197, u198, u199, u200, u201, u202, u203, u204, u205, u206, u207, u208, u209, u210, u211, u212, u213, u214, u215, u216, u217, u218, u219, u220, u221, u222, u223, u224, u225, u226, u227, u228, u229, u230, u231, u232, u233, u234, u235, u236, u237, u238, u239, u240, u241, rfl⟩
    (fun a wr hI => tt_round w hg hold tk ns zs at_ an az ct cn cz bt HT HN HNW HZ hlt hln hlz hexit a wr hI)

set_option maxRecDepth 100000 in
set_option maxHeartbeats 16000000 in
theorem trigTells_any (hold : Int) (tk : List Bool) (ns : List Nt) (zs : List Int) (at_ an az : Option Addr) (ct cn cz : Nat) (w : World) (hg : Hd w) (hT : Recs w.heap at_ 1 bcells tk) (hn : Recs w.heap an 2 Nt.cells ns) (hnw : ∀ x ∈ ns, Nt.wf x) (hz : Ints w.heap az zs)
    (lt : tk.length ≤ 9223372036854775806) (ln : ns.length ≤ 9223372036854775806) (lz : zs.length ≤ 9223372036854775806) :
    Calls Tryd.prog 10 #[.int .i64 hold, .slice at_ tk.length ct, .slice an ns.length cn, .slice az zs.length cz] w (RetV w (.bool true)) := by
  go_enter Tryd.func10, Tryd.ntmps10
  go_wp2_with (fail)
  refine (noted_any _).mono ?_
  rintro e0 w0 ⟨rfl, hF0⟩
  by_cases hh : 0 ≤ hold ∧ hold ≤ 1000
  case neg =>
    have hh2 : hold < 0 ∨ (0 ≤ hold ∧ 1000 < hold) := by omega
    have HH := Lib.hid (show hold < 0 ∨ 1000 < hold by omega)
    clear hh
    rcases hh2 with q1 | ⟨q1, q2⟩
    all_goals
      go_wp2_with (fail)
      refine (trigNew_bad hold _ HH.out).mono ?_
      rintro e w' ⟨rfl, rfl⟩
      go_wp2_with (fail)
      refine (error_any (some 1) 1 w0 (hg.none hF0)).mono ?_
      rintro e2 w2 ⟨rfl, hF2⟩
      rw [show (errN (some 1) == 1) = true from rfl]
      go_wp2
      go_ret
      exact RetV.mk rfl rfl (hF0.trans hF2)
  have k0 : NInv w (w0.alloc (.cells #[.int .i64 hold, .int .i64 0, .int .i64 (-1), .slice none 0 0] 175)) w0.heap.size hold 0 (-1) [] none none 0 [] [] none :=
    ⟨IsTrig.new w0 hold, ⟨hh.1, hh.2, by omega, by omega, by omega, by omega, by simp, List.Pairwise.nil⟩, rfl, fun x hx => absurd hx (by simp), Own.nil _ _ _, (fun _ hg => nomatch hg), (fun h => nomatch h), (fun _ hg => nomatch hg), (fun _ hg => nomatch hg), hF0.size, hF0.alloc _⟩
  obtain ⟨q1, q2⟩ := hh
  go_wp2_with (fail)
  refine (trigNew_ok hold _ ⟨q1, q2⟩).mono ?_
  rintro e1 w1 ⟨rfl, rfl⟩
  obtain ⟨bt, hbt⟩ : ∃ bt, bt = w0.heap.size := ⟨_, rfl⟩
  rw [← hbt] at k0 ⊢
  clear hbt
  generalize (w0.alloc (.cells #[.int .i64 hold, .int .i64 0, .int .i64 (-1), .slice none 0 0] 175)) = w1 at *
  clear hF0
  go_wp2_with (fail)
  refine (error_any none 0 w1 (hg.none k0.fr)).mono ?_
  rintro e2 w2 ⟨rfl, hF2⟩
  rw [show (errN none == 0) = true from rfl]
  have k2 := k0.fr0 hF2
  clear k0 hF2
  have HT := Lib.hid hT
  have HN := Lib.hid hn
  have HNW := Lib.hid hnw
  have HZ := Lib.hid hz
  clear hT hn hnw hz
  go_wp2
  refine tt_loop w hg hold tk ns zs at_ an az ct cn cz bt HT.out HN.out HNW.out HZ.out lt ln lz w2 0 0 0 (-1) [] none none none [] (by omega) k2 _ _ _ _ _ _ _ _ _ _ _ _ _ _ _ _ _ _ _ _ _ _ _ _ _ _ _ _ _ _ _ _ _ _ _ _ _ _ _ _ _ _ _ _ _ _ _ _ _ _ _ _ _ _ _ _ _ _ _ _ _ _ _ _ _ _ _ _ _ _ _ _ _ _ _ _ _ _ _ _ _ _ _ _ _ _ _ _ _ _ _ _ _ _ _ _ _ _ _ _ _ _ _ _ _ _ _ _ _ _ _ _ _ _ _ _ _ _ _ _ _ _ _ _ _ _ _ _ _ _ _ _ _ _ _ _ _ _ _ _ _ _ _ _ _ _ _ _ _ _ _ _ _ _ _ _ _ _ _ _ _ _ _ _ _ _ _ _ _ _ _ _ _ _ _ _ _ _ _ _ _ _ _ _ _ _ _ _ _ _ _ _ _ _ _ _ _ _ _ _ _ _ _ _ _ _ _ _ _ _ _ _ _ _ _ _ _ _ _ _ _ _ _ _ _ _ _ _ _ _ _ _ _ ?_
  clear k2
  intro wc k cw now last aw want v4 v5 v6 v7 v8 v9 v11 v12 v13 v18 v19 v20 v21 v22 v23 v24 v25 v26 v27 v28 v29 v30 v31 v32 v33 v34 v35 v36 v37 v38 v39 v40 v41 v42 v43 v44 v45 v46 v47 v48 v49 v50 v51 v52 v53 v54 v55 v56 v57 v58 v59 v60 v61 v62 v63 v64 v65 v66 v67 v68 v69 v70 v71 v72 v73 v74 v75 v76 v77 v78 v79 v80 v81 v82 v83 v84 v85 v86 v87 v88 v89 v90 v91 v92 v93 v94 v95 v96 v97 v98 v99 v100 v101 v102 v103 v104 v105 v106 v107 v108 v109 v110 v111 v112 v113 v114 v115 v116 v117 v118 v119 v120 v121 v122 v123 v124 v125 v126 v127 v128 v129 v130 v131 v132 v133 v134 v135 v136 v137 v138 v139 v140 v141 v142 v143 v144 v145 v146 v147 v148 v149 v150 v151 v152 v153 v154 v155 v156 v157 v158 v159 v160 v161 v162 v163 v164 v165 v166 v167 v168 v169 v170 v171 v172 v173 v174 v175 v176 v177 v178 v179 v180 v181 v182 v183 v184 v185 v186 v187 v188 v189 v190 v191 v192 v193 v194 v195 v196 v197 v198 v199 v200 v201 v202 v203 v204 v205 v206 v207 v208 v209 v210 v211 v212 v213 v214 v215 v216 v217 v218 v219 v220 v221 v222 v223 v224 v225 v226 v227 v228 v229 v230 v231 v232 v233 v234 v235 v236 v237 v238 v239 v240 v241 hF
  go_wp2
  go_ret
  exact RetV.mk rfl rfl hF
end Go.Proofs.YtfjempfffdeklaaDoor
