import Derived.Test.YtfjempfffdeklaaDoorGreat
import Derived.Test.YtfjempfffdeklaaDoorTrig4
import Derived.Test.YtfjempfffdeklaaDoorOrdered
import Derived.Test.YtfjempfffdeklaaDoorNetFault
import Derived.Test.YtfjempfffdeklaaDoorErrSame
import Derived.Test.YtfjempfffdeklaaDoorArgRecs
import Derived.Test.YtfjempfffdeklaaDoorAnyW
namespace Go.Proofs.YtfjempfffdeklaaDoor
open Go.RowKit

namespace NInv
variable {w0 w w' : World} {bt : Nat} {hold now last z : Int} {L : List Nt} {ob obw : Option Nat} {aw : Option Addr} {cw : Nat} {want wl : List Nt}
theorem wait (h : NInv w0 w bt hold now last L ob aw cw want wl obw) (hT : IsTrig w'.heap bt hold z last L ob) (hok : TrigOk hold z last L) (hF : Fr (fun k => k = bt) w w') : NInv w0 w' bt hold z last L ob aw cw want wl obw :=
  ⟨hT, hok, h.eq, h.net, (h.took hF).1, h.apart, h.apt, h.newt, h.neww, h.bt, (h.took hF).2⟩
theorem taken (h : NInv w0 w bt hold now last L ob aw cw want wl obw) (hT : IsTrig w'.heap bt hold z z [] none) (hok : TrigOk hold z z []) (hF : Fr (fun k => k = bt) w w') : NInv w0 w' bt hold z z [] none none 0 [] [] none :=
  ⟨hT, hok, rfl, (fun _ hx => nomatch hx), Own.nil _ _ _, (fun _ h => nomatch h), (fun h => nomatch h), (fun _ h => nomatch h), (fun _ h => nomatch h), h.bt, (h.took hF).2⟩
theorem ne (h : NInv w0 w bt hold now last L ob aw cw want wl obw) (hw : wl ≠ []) : L ≠ [] := fun hl => hw (by
  have h1 := h.eq
  rw [hl] at h1
  have h2 := ordered_len wl
  rw [← h1] at h2
  exact List.eq_nil_of_length_eq_zero h2.symm)
end NInv
theorem _root_.Go.TrigOk.tm {hold now last z : Int} {l : List Nt} (h : TrigOk hold now last l) (ht : ¬ tkErr now z) : TrigOk hold z last l := by
  unfold tkErr at ht
  obtain ⟨q1, q2, q3, q4, q5, q6, q7, q8⟩ := h
  exact ⟨q1, q2, by omega, by omega, q5, by omega, q7, q8⟩
theorem _root_.Go.TrigOk.took {hold now last z : Int} {l : List Nt} (h : TrigOk hold now last l) (ht : ¬ tkErr now z) : TrigOk hold z z [] := by
  unfold tkErr at ht
  obtain ⟨q1, q2, q3, q4, q5, q6, q7, q8⟩ := h
  exact ⟨q1, q2, by omega, by omega, by omega, by omega, by simp, List.Pairwise.nil⟩
theorem due3 (hold now last : Int) : (last < 0 ∧ now = dueAt hold now last) ∨ (0 ≤ last ∧ now < last + hold ∧ last + hold = dueAt hold now last) ∨ (0 ≤ last ∧ last + hold ≤ now ∧ now = dueAt hold now last) := by
  unfold dueAt
  by_cases h1 : last < 0
  · rw [if_pos h1]; exact .inl ⟨h1, rfl⟩
  · rw [if_neg h1]
    by_cases h2 : now < last + hold
    · rw [if_pos h2]; exact .inr (.inl ⟨by omega, h2, rfl⟩)
    · rw [if_neg h2]; exact .inr (.inr ⟨by omega, by omega, rfl⟩)
/-- What is wrong with an act. -/
def eA (t : Bool) (a n : Int) : Int := match t with
  | true => 0
  | false => numO (netErr a n)
def eB (e now z : Int) : Int := if e = 0 ∧ tkErr now z then 1 else e
def eC (t : Bool) (e : Int) (want : List Nt) (x : Nt) : Int := if t = false ∧ e = 0 ∧ 64 ≤ want.length ∧ x ∉ want then 4 else e
theorem e_take (now z : Int) (want : List Nt) (x : Nt) : eC true (eB (eA true x.a x.n) now z) want x = if tkErr now z then 1 else 0 := by
  unfold eC eB eA
  by_cases h : tkErr now z <;> simp [h]
theorem e_note {now z : Int} {want L : List Nt} {x : Nt} (hs : NSorted L) (hL : L = ordered want) (hl : L.length ≤ 64) : (∀ q, noteE now L x z = .error q → eC false (eB (eA false x.a x.n) now z) want x = q ∧ q ≠ 0) ∧ (∀ L', noteE now L x z = .ok L' → eC false (eB (eA false x.a x.n) now z) want x = 0) := by
  have hm : nHas L x ↔ x ∈ want := by rw [nHas_iff hs, hL, ordered_mem]
  have hlen : L.length = want.length := by rw [hL, ordered_len]
  cases hn : netErr x.a x.n with
  | some k =>
    have hk := netErr_pos hn
    have h1 : eA false x.a x.n = k := by show numO (netErr x.a x.n) = k; rw [hn]; rfl
    have h2 : eB k now z = k := if_neg (fun h => hk h.1)
    have h3 : eC false k want x = k := if_neg (fun h => hk h.2.1)
    have h4 : noteE now L x z = .error k := by unfold noteE; rw [hn]
    rw [h1, h2, h3, h4]
    exact ⟨fun q h => by cases h; exact ⟨rfl, hk⟩, fun L' h => by cases h⟩
  | none =>
    have h1 : eA false x.a x.n = 0 := by show numO (netErr x.a x.n) = 0; rw [hn]; rfl
    rw [h1]
    by_cases ht : tkErr now z
    · have h2 : eB 0 now z = 1 := if_pos ⟨rfl, ht⟩
      have h3 : eC false 1 want x = 1 := if_neg (fun h => absurd h.2.1 (by decide))
      have h4 : noteE now L x z = .error 1 := by unfold noteE; rw [hn]; exact if_pos ht
      rw [h2, h3, h4]
      exact ⟨fun q h => by cases h; exact ⟨rfl, by decide⟩, fun L' h => by cases h⟩
    · have h2 : eB 0 now z = 0 := if_neg (fun h => ht h.2)
      rw [h2]
      by_cases hx : x ∈ want
      · have h3 : eC false 0 want x = 0 := if_neg (fun h => h.2.2.2 hx)
        have h4 : noteE now L x z = .ok L := by unfold noteE; rw [hn]; simp only; rw [if_neg ht, if_pos (hm.2 hx)]
        rw [h3, h4]
        exact ⟨fun q h => (by cases h), fun L' _ => rfl⟩
      · by_cases h64 : L.length = 64
        · have h3 : eC false 0 want x = 4 := if_pos ⟨rfl, rfl, by omega, hx⟩
          have h4 : noteE now L x z = .error 4 := by unfold noteE; rw [hn]; simp only; rw [if_neg ht, if_neg (fun h => hx (hm.1 h)), if_pos h64]
          rw [h3, h4]
          exact ⟨fun q h => by cases h; exact ⟨rfl, by decide⟩, fun L' h => by cases h⟩
        · have h3 : eC false 0 want x = 0 := if_neg (fun h => by have := h.2.2.1; omega)
          rw [h3]
          have h4 : noteE now L x z = .ok (nIns L x) := by unfold noteE; rw [hn]; simp only; rw [if_neg ht, if_neg (fun h => hx (hm.1 h)), if_neg h64]
          rw [h4]
          exact ⟨fun q h => (by cases h), fun L' _ => rfl⟩
theorem pos_ne {α : Type} {l : List α} (h : l ≠ []) : 0 < l.length := List.length_pos_iff.2 h

noncomputable def ttL : Code := Tryd.f10.loopBody
noncomputable def ttB : Code := ((ttL.from' 1).stm 0).held
set_option maxRecDepth 1000000 in
set_option maxHeartbeats 8000000 in
theorem tt_p0 (w wr : World) (hold now last : Int) (gt ot gn on gz oz tl nl zl ct cn cz bt k cw : Nat) (t : Bool) (xa xn z : Int) (aw : Option Addr) (want : List Nt) (hb : Hid (∀ W : World, Fr (fun _ => False) w W → W.cell? ⟨gt, ot + k, none⟩ = some (.bool t) ∧ W.cell? ⟨gn, on + k * 2, none⟩ = some (.int .u32 xa) ∧ W.cell? ⟨gn, on + k * 2 + 1, none⟩ = some (.int .i64 xn) ∧ W.cell? ⟨gz, oz + k, none⟩ = some (.int .i64 z))) (hx2 : 0 ≤ xa ∧ xa < 4294967296) (h1 : k < tl) (h2 : k < nl) (h3 : k < zl) (hlt : tl ≤ 9223372036854775806) (hln : nl ≤ 9223372036854775806) (hlz : zl ≤ 9223372036854775806) (hF : Fr (fun _ => False) w wr)  {Q : Exit → Act → World → Prop} (u4 u5 u6 u7 u8 u9 u11 u12 u13 u18 u19 u20 u21 u22 u23 u24 u25 u26 u27 u28 u29 u30 u31 u32 u33 u34 u35 u36 u37 u38 u39 u40 u41 u42 u43 u44 u45 u46 u47 u48 u49 u50 u51 u52 u53 u54 u55 u56 u57 u58 u59 u60 u61 u62 u63 u64 u65 u66 u67 u68 u69 u70 u71 u72 u73 u74 u75 u76 u77 u78 u79 u80 u81 u82 u83 u84 u85 u86 u87 u88 u89 u90 u91 u92 u93 u94 u95 u96 u97 u98 u99 u100 u101 u102 u103 u104 u105 u106 u107 u108 u109 u110 u111 u112 u113 u114 u115 u116 u117 u118 u119 u120 u121 u122 u123 u124 u125 u126 u127 u128 u129 u130 u131 u132 u133 u134 u135 u136 u137 u138 u139 u140 u141 u142 u143 u144 u145 u146 u147 u148 u149 u150 u151 u152 u153 u154 u155 u156 u157 u158 u159 u160 u161 u162 u163 u164 u165 u166 u167 u168 u169 u170 u171 u172 u173 u174 u175 u176 u177 u178 u179 u180 u181 u182 u183 u184 u185 u186 u187 u188 u189 u190 u191 u192 u193 u194 u195 u196 u197 u198 u199 u200 u201 u202 u203 u204 u205 u206 u207 u208 u209 u210 u211 u212 u213 u214 u215 u216 u217 u218 u219 u220 u221 u222 u223 u224 u225 u226 u227 u228 u229 u230 u231 u232 u233 u234 u235 u236 u237 u238 u239 u240 u241 : Value)
    (hQ : ∀ (v4 v5 v6 v7 v8 v9 v11 v13 v18 v19 v20 v21 v22 v23 v24 v25 v26 v27 v28 v29 v30 v31 v32 v33 v34 v35 v36 v37 v38 v39 v40 v41 v42 v43 v44 v45 v46 v47 v48 v49 v50 v51 v52 v53 v54 v55 v56 v57 v58 v59 v60 v61 v62 v63 v64 v65 v66 v67 v68 v69 v70 v71 v72 v73 v74 v75 v76 v77 v78 v79 v80 v81 v82 v83 v84 v85 v86 v87 v88 v89 v90 v91 v92 v93 v94 v95 v96 v97 v98 v99 v100 v101 v102 v103 v104 v105 v106 v107 v108 v109 v110 v111 v112 v113 v114 v115 v116 v117 v118 v119 v120 v121 v122 v123 v124 v125 v126 v127 v128 v129 v130 v131 v132 v133 v134 v135 v136 v137 v138 v139 v140 v141 v142 v143 v144 v145 v146 v147 v148 v149 v150 v151 v152 v153 v154 v155 v156 v157 v158 v159 v160 v161 v162 v163 v164 v165 v166 v167 v168 v169 v170 v171 v172 v173 v174 v175 v176 v177 v178 v179 v180 v181 v182 v183 v184 v185 v186 v187 v188 v189 v190 v191 v192 v193 v194 v195 v196 v197 v198 v199 v200 v201 v202 v203 v204 v205 v206 v207 v208 v209 v210 v211 v212 v213 v214 v215 v216 v217 v218 v219 v220 v221 v222 v223 v224 v225 v226 v227 v228 v229 v230 v231 v232 v233 v234 v235 v236 v237 v238 v239 v240 v241 : Value), Q .normal ⟨#[.int .i64 hold, .slice (some ⟨gt, ot, none⟩) tl ct, .slice (some ⟨gn, on, none⟩) nl cn, .slice (some ⟨gz, oz, none⟩) zl cz, v4, v5, v6, v7, v8, v9, .pointer (some ⟨bt, 0, none⟩), v11, .int .i64 0, v13, .int .i64 now, .int .i64 last, .slice aw want.length cw, .int .i64 k, v18, v19, v20, v21, v22, v23, v24, v25, v26, v27, v28, v29, v30, v31, v32, v33, v34, v35, v36, v37, v38, v39, v40, v41, v42, v43, v44, v45, v46, v47, v48, v49, v50, v51, v52, v53, v54, v55, v56, v57, v58, v59, v60, v61, v62, v63, v64, v65, v66, v67, v68, v69, v70, v71, v72, v73, v74, v75, v76, v77, v78, v79, v80, v81, v82, v83, v84, v85, v86, v87, v88, v89, v90, v91, v92, v93, v94, v95, v96, v97, v98, v99, v100, v101, v102, v103, v104, v105, v106, v107, v108, v109, v110, v111, v112, v113, v114, v115, v116, v117, v118, v119, v120, v121, v122, v123, v124, v125, v126, v127, v128, v129, v130, v131, v132, v133, v134, v135, v136, v137, v138, v139, v140, v141, v142, v143, v144, v145, v146, v147, v148, v149, v150, v151, v152, v153, v154, v155, v156, v157, v158, v159, v160, v161, v162, v163, v164, v165, v166, v167, v168, v169, v170, v171, v172, v173, v174, v175, v176, v177, v178, v179, v180, v181, v182, v183, v184, v185, v186, v187, v188, v189, v190, v191, v192, v193, v194, v195, v196, v197, v198, v199, v200, v201, v202, v203, v204, v205, v206, v207, v208, v209, v210, v211, v212, v213, v214, v215, v216, v217, v218, v219, v220, v221, v222, v223, v224, v225, v226, v227, v228, v229, v230, v231, v232, v233, v234, v235, v236, v237, v238, v239, v240, v241], []⟩ wr) :
    (ttB.stm 0).wp Tryd.prog Q ⟨#[.int .i64 hold, .slice (some ⟨gt, ot, none⟩) tl ct, .slice (some ⟨gn, on, none⟩) nl cn, .slice (some ⟨gz, oz, none⟩) zl cz, u4, u5, u6, u7, u8, u9, .pointer (some ⟨bt, 0, none⟩), u11, u12, u13, .int .i64 now, .int .i64 last, .slice aw want.length cw, .int .i64 k, u18, u19, u20, u21, u22, u23, u24, u25, u26, u27, u28, u29, u30, u31, u32, u33, u34, u35, u36, u37, u38, u39, u40, u41, u42, u43, u44, u45, u46, u47, u48, u49, u50, u51, u52, u53, u54, u55, u56, u57, u58, u59, u60, u61, u62, u63, u64, u65, u66, u67, u68, u69, u70, u71, u72, u73, u74, u75, u76, u77, u78, u79, u80, u81, u82, u83, u84, u85, u86, u87, u88, u89, u90, u91, u92, u93, u94, u95, u96, u97, u98, u99, u100, u101, u102, u103, u104, u105, u106, u107, u108, u109, u110, u111, u112, u113, u114, u115, u116, u117, u118, u119, u120, u121, u122, u123, u124, u125, u126, u127, u128, u129, u130, u131, u132, u133, u134, u135, u136, u137, u138, u139, u140, u141, u142, u143, u144, u145, u146, u147, u148, u149, u150, u151, u152, u153, u154, u155, u156, u157, u158, u159, u160, u161, u162, u163, u164, u165, u166, u167, u168, u169, u170, u171, u172, u173, u174, u175, u176, u177, u178, u179, u180, u181, u182, u183, u184, u185, u186, u187, u188, u189, u190, u191, u192, u193, u194, u195, u196, u197, u198, u199, u200, u201, u202, u203, u204, u205, u206, u207, u208, u209, u210, u211, u212, u213, u214, u215, u216, u217, u218, u219, u220, u221, u222, u223, u224, u225, u226, u227, u228, u229, u230, u231, u232, u233, u234, u235, u236, u237, u238, u239, u240, u241], []⟩ wr := by
  have HQ := Lib.hid hQ
  clear hQ
  conv => arg 2; whnf
  go_wp2
  exact HQ.out _ _ _ _ _ _ _ _ _ _ _ _ _ _ _ _ _ _ _ _ _ _ _ _ _ _ _ _ _ _ _ _ _ _ _ _ _ _ _ _ _ _ _ _ _ _ _ _ _ _ _ _ _ _ _ _ _ _ _ _ _ _ _ _ _ _ _ _ _ _ _ _ _ _ _ _ _ _ _ _ _ _ _ _ _ _ _ _ _ _ _ _ _ _ _ _ _ _ _ _ _ _ _ _ _ _ _ _ _ _ _ _ _ _ _ _ _ _ _ _ _ _ _ _ _ _ _ _ _ _ _ _ _ _ _ _ _ _ _ _ _ _ _ _ _ _ _ _ _ _ _ _ _ _ _ _ _ _ _ _ _ _ _ _ _ _ _ _ _ _ _ _ _ _ _ _ _ _ _ _ _ _ _ _ _ _ _ _ _ _ _ _ _ _ _ _ _ _ _ _ _ _ _ _ _ _ _ _ _ _ _ _ _ _ _ _ _ _ _ _ _ _ _ _ _ _ _ _ _ _ _ _

set_option maxRecDepth 1000000 in
set_option maxHeartbeats 8000000 in
theorem tt_p1 (w wr : World) (hold now last : Int) (gt ot gn on gz oz tl nl zl ct cn cz bt k cw : Nat) (t : Bool) (xa xn z : Int) (aw : Option Addr) (want : List Nt) (hb : Hid (∀ W : World, Fr (fun _ => False) w W → W.cell? ⟨gt, ot + k, none⟩ = some (.bool t) ∧ W.cell? ⟨gn, on + k * 2, none⟩ = some (.int .u32 xa) ∧ W.cell? ⟨gn, on + k * 2 + 1, none⟩ = some (.int .i64 xn) ∧ W.cell? ⟨gz, oz + k, none⟩ = some (.int .i64 z))) (hx2 : 0 ≤ xa ∧ xa < 4294967296) (h1 : k < tl) (h2 : k < nl) (h3 : k < zl) (hlt : tl ≤ 9223372036854775806) (hln : nl ≤ 9223372036854775806) (hlz : zl ≤ 9223372036854775806) (hF : Fr (fun _ => False) w wr)  {Q : Exit → Act → World → Prop} (u4 u5 u6 u7 u8 u9 u11 u13 u18 u19 u20 u21 u22 u23 u24 u25 u26 u27 u28 u29 u30 u31 u32 u33 u34 u35 u36 u37 u38 u39 u40 u41 u42 u43 u44 u45 u46 u47 u48 u49 u50 u51 u52 u53 u54 u55 u56 u57 u58 u59 u60 u61 u62 u63 u64 u65 u66 u67 u68 u69 u70 u71 u72 u73 u74 u75 u76 u77 u78 u79 u80 u81 u82 u83 u84 u85 u86 u87 u88 u89 u90 u91 u92 u93 u94 u95 u96 u97 u98 u99 u100 u101 u102 u103 u104 u105 u106 u107 u108 u109 u110 u111 u112 u113 u114 u115 u116 u117 u118 u119 u120 u121 u122 u123 u124 u125 u126 u127 u128 u129 u130 u131 u132 u133 u134 u135 u136 u137 u138 u139 u140 u141 u142 u143 u144 u145 u146 u147 u148 u149 u150 u151 u152 u153 u154 u155 u156 u157 u158 u159 u160 u161 u162 u163 u164 u165 u166 u167 u168 u169 u170 u171 u172 u173 u174 u175 u176 u177 u178 u179 u180 u181 u182 u183 u184 u185 u186 u187 u188 u189 u190 u191 u192 u193 u194 u195 u196 u197 u198 u199 u200 u201 u202 u203 u204 u205 u206 u207 u208 u209 u210 u211 u212 u213 u214 u215 u216 u217 u218 u219 u220 u221 u222 u223 u224 u225 u226 u227 u228 u229 u230 u231 u232 u233 u234 u235 u236 u237 u238 u239 u240 u241 : Value)
    (hQ : ∀ (v4 v5 v6 v7 v8 v9 v11 v13 v18 v19 v20 v21 v22 v23 v24 v25 v26 v27 v28 v29 v30 v31 v32 v33 v34 v35 v36 v37 v38 v39 v40 v41 v42 v43 v44 v45 v46 v47 v48 v49 v50 v51 v52 v53 v54 v55 v56 v57 v58 v59 v60 v61 v62 v63 v64 v65 v66 v67 v68 v69 v70 v71 v72 v73 v74 v75 v76 v77 v78 v79 v80 v81 v82 v83 v84 v85 v86 v87 v88 v89 v90 v91 v92 v93 v94 v95 v96 v97 v98 v99 v100 v101 v102 v103 v104 v105 v106 v107 v108 v109 v110 v111 v112 v113 v114 v115 v116 v117 v118 v119 v120 v121 v122 v123 v124 v125 v126 v127 v128 v129 v130 v131 v132 v133 v134 v135 v136 v137 v138 v139 v140 v141 v142 v143 v144 v145 v146 v147 v148 v149 v150 v151 v152 v153 v154 v155 v156 v157 v158 v159 v160 v161 v162 v163 v164 v165 v166 v167 v168 v169 v170 v171 v172 v173 v174 v175 v176 v177 v178 v179 v180 v181 v182 v183 v184 v185 v186 v187 v188 v189 v190 v191 v192 v193 v194 v195 v196 v197 v198 v199 v200 v201 v202 v203 v204 v205 v206 v207 v208 v209 v210 v211 v212 v213 v214 v215 v216 v217 v218 v219 v220 v221 v222 v223 v224 v225 v226 v227 v228 v229 v230 v231 v232 v233 v234 v235 v236 v237 v238 v239 v240 v241 : Value), ∀ (wc : World), Fr (fun _ => False) wr wc → Q .normal ⟨#[.int .i64 hold, .slice (some ⟨gt, ot, none⟩) tl ct, .slice (some ⟨gn, on, none⟩) nl cn, .slice (some ⟨gz, oz, none⟩) zl cz, v4, v5, v6, v7, v8, v9, .pointer (some ⟨bt, 0, none⟩), v11, .int .i64 (eA t xa xn), v13, .int .i64 now, .int .i64 last, .slice aw want.length cw, .int .i64 k, v18, v19, v20, v21, v22, v23, v24, v25, v26, v27, v28, v29, v30, v31, v32, v33, v34, v35, v36, v37, v38, v39, v40, v41, v42, v43, v44, v45, v46, v47, v48, v49, v50, v51, v52, v53, v54, v55, v56, v57, v58, v59, v60, v61, v62, v63, v64, v65, v66, v67, v68, v69, v70, v71, v72, v73, v74, v75, v76, v77, v78, v79, v80, v81, v82, v83, v84, v85, v86, v87, v88, v89, v90, v91, v92, v93, v94, v95, v96, v97, v98, v99, v100, v101, v102, v103, v104, v105, v106, v107, v108, v109, v110, v111, v112, v113, v114, v115, v116, v117, v118, v119, v120, v121, v122, v123, v124, v125, v126, v127, v128, v129, v130, v131, v132, v133, v134, v135, v136, v137, v138, v139, v140, v141, v142, v143, v144, v145, v146, v147, v148, v149, v150, v151, v152, v153, v154, v155, v156, v157, v158, v159, v160, v161, v162, v163, v164, v165, v166, v167, v168, v169, v170, v171, v172, v173, v174, v175, v176, v177, v178, v179, v180, v181, v182, v183, v184, v185, v186, v187, v188, v189, v190, v191, v192, v193, v194, v195, v196, v197, v198, v199, v200, v201, v202, v203, v204, v205, v206, v207, v208, v209, v210, v211, v212, v213, v214, v215, v216, v217, v218, v219, v220, v221, v222, v223, v224, v225, v226, v227, v228, v229, v230, v231, v232, v233, v234, v235, v236, v237, v238, v239, v240, v241], []⟩ wc) :
    (ttB.stm 1).wp Tryd.prog Q ⟨#[.int .i64 hold, .slice (some ⟨gt, ot, none⟩) tl ct, .slice (some ⟨gn, on, none⟩) nl cn, .slice (some ⟨gz, oz, none⟩) zl cz, u4, u5, u6, u7, u8, u9, .pointer (some ⟨bt, 0, none⟩), u11, .int .i64 0, u13, .int .i64 now, .int .i64 last, .slice aw want.length cw, .int .i64 k, u18, u19, u20, u21, u22, u23, u24, u25, u26, u27, u28, u29, u30, u31, u32, u33, u34, u35, u36, u37, u38, u39, u40, u41, u42, u43, u44, u45, u46, u47, u48, u49, u50, u51, u52, u53, u54, u55, u56, u57, u58, u59, u60, u61, u62, u63, u64, u65, u66, u67, u68, u69, u70, u71, u72, u73, u74, u75, u76, u77, u78, u79, u80, u81, u82, u83, u84, u85, u86, u87, u88, u89, u90, u91, u92, u93, u94, u95, u96, u97, u98, u99, u100, u101, u102, u103, u104, u105, u106, u107, u108, u109, u110, u111, u112, u113, u114, u115, u116, u117, u118, u119, u120, u121, u122, u123, u124, u125, u126, u127, u128, u129, u130, u131, u132, u133, u134, u135, u136, u137, u138, u139, u140, u141, u142, u143, u144, u145, u146, u147, u148, u149, u150, u151, u152, u153, u154, u155, u156, u157, u158, u159, u160, u161, u162, u163, u164, u165, u166, u167, u168, u169, u170, u171, u172, u173, u174, u175, u176, u177, u178, u179, u180, u181, u182, u183, u184, u185, u186, u187, u188, u189, u190, u191, u192, u193, u194, u195, u196, u197, u198, u199, u200, u201, u202, u203, u204, u205, u206, u207, u208, u209, u210, u211, u212, u213, u214, u215, u216, u217, u218, u219, u220, u221, u222, u223, u224, u225, u226, u227, u228, u229, u230, u231, u232, u233, u234, u235, u236, u237, u238, u239, u240, u241], []⟩ wr := by
  have HQ := Lib.hid hQ
  clear hQ
  conv => arg 2; whnf
  obtain ⟨et, f0, f1, ez⟩ := hb.out wr hF
  cases t with
  | true =>
    go_wp2
    exact HQ.out _ _ _ _ _ _ _ _ _ _ _ _ _ _ _ _ _ _ _ _ _ _ _ _ _ _ _ _ _ _ _ _ _ _ _ _ _ _ _ _ _ _ _ _ _ _ _ _ _ _ _ _ _ _ _ _ _ _ _ _ _ _ _ _ _ _ _ _ _ _ _ _ _ _ _ _ _ _ _ _ _ _ _ _ _ _ _ _ _ _ _ _ _ _ _ _ _ _ _ _ _ _ _ _ _ _ _ _ _ _ _ _ _ _ _ _ _ _ _ _ _ _ _ _ _ _ _ _ _ _ _ _ _ _ _ _ _ _ _ _ _ _ _ _ _ _ _ _ _ _ _ _ _ _ _ _ _ _ _ _ _ _ _ _ _ _ _ _ _ _ _ _ _ _ _ _ _ _ _ _ _ _ _ _ _ _ _ _ _ _ _ _ _ _ _ _ _ _ _ _ _ _ _ _ _ _ _ _ _ _ _ _ _ _ _ _ _ _ _ _ _ _ _ _ _ _ _ _ _ _ _ _ _ (Fr.refl _ _)
  | false =>
    go_wp2_with (fail)
    refine (netFault_any xa xn wr hx2).mono ?_
    rintro e1 w1 ⟨rfl, hF1⟩
    try dsimp only
    go_wp2
    exact HQ.out _ _ _ _ _ _ _ _ _ _ _ _ _ _ _ _ _ _ _ _ _ _ _ _ _ _ _ _ _ _ _ _ _ _ _ _ _ _ _ _ _ _ _ _ _ _ _ _ _ _ _ _ _ _ _ _ _ _ _ _ _ _ _ _ _ _ _ _ _ _ _ _ _ _ _ _ _ _ _ _ _ _ _ _ _ _ _ _ _ _ _ _ _ _ _ _ _ _ _ _ _ _ _ _ _ _ _ _ _ _ _ _ _ _ _ _ _ _ _ _ _ _ _ _ _ _ _ _ _ _ _ _ _ _ _ _ _ _ _ _ _ _ _ _ _ _ _ _ _ _ _ _ _ _ _ _ _ _ _ _ _ _ _ _ _ _ _ _ _ _ _ _ _ _ _ _ _ _ _ _ _ _ _ _ _ _ _ _ _ _ _ _ _ _ _ _ _ _ _ _ _ _ _ _ _ _ _ _ _ _ _ _ _ _ _ _ _ _ _ _ _ _ _ _ _ _ _ _ _ _ _ _ _ hF1

set_option maxRecDepth 1000000 in
set_option maxHeartbeats 8000000 in
theorem tt_p2 (w wr : World) (hold now last : Int) (gt ot gn on gz oz tl nl zl ct cn cz bt k cw : Nat) (t : Bool) (xa xn z : Int) (aw : Option Addr) (want : List Nt) (hb : Hid (∀ W : World, Fr (fun _ => False) w W → W.cell? ⟨gt, ot + k, none⟩ = some (.bool t) ∧ W.cell? ⟨gn, on + k * 2, none⟩ = some (.int .u32 xa) ∧ W.cell? ⟨gn, on + k * 2 + 1, none⟩ = some (.int .i64 xn) ∧ W.cell? ⟨gz, oz + k, none⟩ = some (.int .i64 z))) (hx2 : 0 ≤ xa ∧ xa < 4294967296) (h1 : k < tl) (h2 : k < nl) (h3 : k < zl) (hlt : tl ≤ 9223372036854775806) (hln : nl ≤ 9223372036854775806) (hlz : zl ≤ 9223372036854775806) (hF : Fr (fun _ => False) w wr) (E1 : Int) (q5 : 0 ≤ now) (q6 : now ≤ 1099511627776) {Q : Exit → Act → World → Prop} (u4 u5 u6 u7 u8 u9 u11 u13 u18 u19 u20 u21 u22 u23 u24 u25 u26 u27 u28 u29 u30 u31 u32 u33 u34 u35 u36 u37 u38 u39 u40 u41 u42 u43 u44 u45 u46 u47 u48 u49 u50 u51 u52 u53 u54 u55 u56 u57 u58 u59 u60 u61 u62 u63 u64 u65 u66 u67 u68 u69 u70 u71 u72 u73 u74 u75 u76 u77 u78 u79 u80 u81 u82 u83 u84 u85 u86 u87 u88 u89 u90 u91 u92 u93 u94 u95 u96 u97 u98 u99 u100 u101 u102 u103 u104 u105 u106 u107 u108 u109 u110 u111 u112 u113 u114 u115 u116 u117 u118 u119 u120 u121 u122 u123 u124 u125 u126 u127 u128 u129 u130 u131 u132 u133 u134 u135 u136 u137 u138 u139 u140 u141 u142 u143 u144 u145 u146 u147 u148 u149 u150 u151 u152 u153 u154 u155 u156 u157 u158 u159 u160 u161 u162 u163 u164 u165 u166 u167 u168 u169 u170 u171 u172 u173 u174 u175 u176 u177 u178 u179 u180 u181 u182 u183 u184 u185 u186 u187 u188 u189 u190 u191 u192 u193 u194 u195 u196 u197 u198 u199 u200 u201 u202 u203 u204 u205 u206 u207 u208 u209 u210 u211 u212 u213 u214 u215 u216 u217 u218 u219 u220 u221 u222 u223 u224 u225 u226 u227 u228 u229 u230 u231 u232 u233 u234 u235 u236 u237 u238 u239 u240 u241 : Value)
    (hQ : ∀ (v4 v5 v6 v7 v8 v9 v11 v13 v18 v19 v20 v21 v22 v23 v24 v25 v26 v27 v28 v29 v30 v31 v32 v33 v34 v35 v36 v37 v38 v39 v40 v41 v42 v43 v44 v45 v46 v47 v48 v49 v50 v51 v52 v53 v54 v55 v56 v57 v58 v59 v60 v61 v62 v63 v64 v65 v66 v67 v68 v69 v70 v71 v72 v73 v74 v75 v76 v77 v78 v79 v80 v81 v82 v83 v84 v85 v86 v87 v88 v89 v90 v91 v92 v93 v94 v95 v96 v97 v98 v99 v100 v101 v102 v103 v104 v105 v106 v107 v108 v109 v110 v111 v112 v113 v114 v115 v116 v117 v118 v119 v120 v121 v122 v123 v124 v125 v126 v127 v128 v129 v130 v131 v132 v133 v134 v135 v136 v137 v138 v139 v140 v141 v142 v143 v144 v145 v146 v147 v148 v149 v150 v151 v152 v153 v154 v155 v156 v157 v158 v159 v160 v161 v162 v163 v164 v165 v166 v167 v168 v169 v170 v171 v172 v173 v174 v175 v176 v177 v178 v179 v180 v181 v182 v183 v184 v185 v186 v187 v188 v189 v190 v191 v192 v193 v194 v195 v196 v197 v198 v199 v200 v201 v202 v203 v204 v205 v206 v207 v208 v209 v210 v211 v212 v213 v214 v215 v216 v217 v218 v219 v220 v221 v222 v223 v224 v225 v226 v227 v228 v229 v230 v231 v232 v233 v234 v235 v236 v237 v238 v239 v240 v241 : Value), Q .normal ⟨#[.int .i64 hold, .slice (some ⟨gt, ot, none⟩) tl ct, .slice (some ⟨gn, on, none⟩) nl cn, .slice (some ⟨gz, oz, none⟩) zl cz, v4, v5, v6, v7, v8, v9, .pointer (some ⟨bt, 0, none⟩), v11, .int .i64 (eB E1 now z), v13, .int .i64 now, .int .i64 last, .slice aw want.length cw, .int .i64 k, v18, v19, v20, v21, v22, v23, v24, v25, v26, v27, v28, v29, v30, v31, v32, v33, v34, v35, v36, v37, v38, v39, v40, v41, v42, v43, v44, v45, v46, v47, v48, v49, v50, v51, v52, v53, v54, v55, v56, v57, v58, v59, v60, v61, v62, v63, v64, v65, v66, v67, v68, v69, v70, v71, v72, v73, v74, v75, v76, v77, v78, v79, v80, v81, v82, v83, v84, v85, v86, v87, v88, v89, v90, v91, v92, v93, v94, v95, v96, v97, v98, v99, v100, v101, v102, v103, v104, v105, v106, v107, v108, v109, v110, v111, v112, v113, v114, v115, v116, v117, v118, v119, v120, v121, v122, v123, v124, v125, v126, v127, v128, v129, v130, v131, v132, v133, v134, v135, v136, v137, v138, v139, v140, v141, v142, v143, v144, v145, v146, v147, v148, v149, v150, v151, v152, v153, v154, v155, v156, v157, v158, v159, v160, v161, v162, v163, v164, v165, v166, v167, v168, v169, v170, v171, v172, v173, v174, v175, v176, v177, v178, v179, v180, v181, v182, v183, v184, v185, v186, v187, v188, v189, v190, v191, v192, v193, v194, v195, v196, v197, v198, v199, v200, v201, v202, v203, v204, v205, v206, v207, v208, v209, v210, v211, v212, v213, v214, v215, v216, v217, v218, v219, v220, v221, v222, v223, v224, v225, v226, v227, v228, v229, v230, v231, v232, v233, v234, v235, v236, v237, v238, v239, v240, v241], []⟩ wr) :
    (ttB.stm 2).wp Tryd.prog Q ⟨#[.int .i64 hold, .slice (some ⟨gt, ot, none⟩) tl ct, .slice (some ⟨gn, on, none⟩) nl cn, .slice (some ⟨gz, oz, none⟩) zl cz, u4, u5, u6, u7, u8, u9, .pointer (some ⟨bt, 0, none⟩), u11, .int .i64 E1, u13, .int .i64 now, .int .i64 last, .slice aw want.length cw, .int .i64 k, u18, u19, u20, u21, u22, u23, u24, u25, u26, u27, u28, u29, u30, u31, u32, u33, u34, u35, u36, u37, u38, u39, u40, u41, u42, u43, u44, u45, u46, u47, u48, u49, u50, u51, u52, u53, u54, u55, u56, u57, u58, u59, u60, u61, u62, u63, u64, u65, u66, u67, u68, u69, u70, u71, u72, u73, u74, u75, u76, u77, u78, u79, u80, u81, u82, u83, u84, u85, u86, u87, u88, u89, u90, u91, u92, u93, u94, u95, u96, u97, u98, u99, u100, u101, u102, u103, u104, u105, u106, u107, u108, u109, u110, u111, u112, u113, u114, u115, u116, u117, u118, u119, u120, u121, u122, u123, u124, u125, u126, u127, u128, u129, u130, u131, u132, u133, u134, u135, u136, u137, u138, u139, u140, u141, u142, u143, u144, u145, u146, u147, u148, u149, u150, u151, u152, u153, u154, u155, u156, u157, u158, u159, u160, u161, u162, u163, u164, u165, u166, u167, u168, u169, u170, u171, u172, u173, u174, u175, u176, u177, u178, u179, u180, u181, u182, u183, u184, u185, u186, u187, u188, u189, u190, u191, u192, u193, u194, u195, u196, u197, u198, u199, u200, u201, u202, u203, u204, u205, u206, u207, u208, u209, u210, u211, u212, u213, u214, u215, u216, u217, u218, u219, u220, u221, u222, u223, u224, u225, u226, u227, u228, u229, u230, u231, u232, u233, u234, u235, u236, u237, u238, u239, u240, u241], []⟩ wr := by
  have HQ := Lib.hid hQ
  clear hQ
  conv => arg 2; whnf
  obtain ⟨et, f0, f1, ez⟩ := hb.out wr hF
  by_cases h0 : E1 = 0
  · have e0 : (E1 == 0) = true := by simp [h0]
    by_cases hte : tkErr now z
    · have HB := Lib.hid (show eB E1 now z = 1 from if_pos ⟨h0, hte⟩)
      have hte2 : z < now ∨ (now ≤ z ∧ 1099511627776 < z) := by unfold tkErr at hte; omega
      rw [HB.out] at HQ
      clear hte h0
      rcases hte2 with z1 | ⟨z1, z2⟩
      all_goals
        go_wp2
        exact HQ.out _ _ _ _ _ _ _ _ _ _ _ _ _ _ _ _ _ _ _ _ _ _ _ _ _ _ _ _ _ _ _ _ _ _ _ _ _ _ _ _ _ _ _ _ _ _ _ _ _ _ _ _ _ _ _ _ _ _ _ _ _ _ _ _ _ _ _ _ _ _ _ _ _ _ _ _ _ _ _ _ _ _ _ _ _ _ _ _ _ _ _ _ _ _ _ _ _ _ _ _ _ _ _ _ _ _ _ _ _ _ _ _ _ _ _ _ _ _ _ _ _ _ _ _ _ _ _ _ _ _ _ _ _ _ _ _ _ _ _ _ _ _ _ _ _ _ _ _ _ _ _ _ _ _ _ _ _ _ _ _ _ _ _ _ _ _ _ _ _ _ _ _ _ _ _ _ _ _ _ _ _ _ _ _ _ _ _ _ _ _ _ _ _ _ _ _ _ _ _ _ _ _ _ _ _ _ _ _ _ _ _ _ _ _ _ _ _ _ _ _ _ _ _ _ _ _ _ _ _ _ _ _
    · have HB := Lib.hid (show eB E1 now z = E1 from if_neg (fun h => hte h.2))
      obtain ⟨z1, z2⟩ : now ≤ z ∧ z ≤ 1099511627776 := by unfold tkErr at hte; omega
      rw [HB.out] at HQ
      clear hte h0
      go_wp2
      exact HQ.out _ _ _ _ _ _ _ _ _ _ _ _ _ _ _ _ _ _ _ _ _ _ _ _ _ _ _ _ _ _ _ _ _ _ _ _ _ _ _ _ _ _ _ _ _ _ _ _ _ _ _ _ _ _ _ _ _ _ _ _ _ _ _ _ _ _ _ _ _ _ _ _ _ _ _ _ _ _ _ _ _ _ _ _ _ _ _ _ _ _ _ _ _ _ _ _ _ _ _ _ _ _ _ _ _ _ _ _ _ _ _ _ _ _ _ _ _ _ _ _ _ _ _ _ _ _ _ _ _ _ _ _ _ _ _ _ _ _ _ _ _ _ _ _ _ _ _ _ _ _ _ _ _ _ _ _ _ _ _ _ _ _ _ _ _ _ _ _ _ _ _ _ _ _ _ _ _ _ _ _ _ _ _ _ _ _ _ _ _ _ _ _ _ _ _ _ _ _ _ _ _ _ _ _ _ _ _ _ _ _ _ _ _ _ _ _ _ _ _ _ _ _ _ _ _ _ _ _ _ _ _ _
  · have e0 : (E1 == 0) = false := by simp [h0]
    have HB := Lib.hid (show eB E1 now z = E1 from if_neg (fun h => h0 h.1))
    rw [HB.out] at HQ
    clear h0
    go_wp2
    exact HQ.out _ _ _ _ _ _ _ _ _ _ _ _ _ _ _ _ _ _ _ _ _ _ _ _ _ _ _ _ _ _ _ _ _ _ _ _ _ _ _ _ _ _ _ _ _ _ _ _ _ _ _ _ _ _ _ _ _ _ _ _ _ _ _ _ _ _ _ _ _ _ _ _ _ _ _ _ _ _ _ _ _ _ _ _ _ _ _ _ _ _ _ _ _ _ _ _ _ _ _ _ _ _ _ _ _ _ _ _ _ _ _ _ _ _ _ _ _ _ _ _ _ _ _ _ _ _ _ _ _ _ _ _ _ _ _ _ _ _ _ _ _ _ _ _ _ _ _ _ _ _ _ _ _ _ _ _ _ _ _ _ _ _ _ _ _ _ _ _ _ _ _ _ _ _ _ _ _ _ _ _ _ _ _ _ _ _ _ _ _ _ _ _ _ _ _ _ _ _ _ _ _ _ _ _ _ _ _ _ _ _ _ _ _ _ _ _ _ _ _ _ _ _ _ _ _ _ _ _ _ _ _ _

set_option maxRecDepth 1000000 in
set_option maxHeartbeats 8000000 in
theorem tt_p3 (w wr : World) (hold now last : Int) (gt ot gn on gz oz tl nl zl ct cn cz bt k cw : Nat) (t : Bool) (xa xn z : Int) (aw : Option Addr) (want : List Nt) (hb : Hid (∀ W : World, Fr (fun _ => False) w W → W.cell? ⟨gt, ot + k, none⟩ = some (.bool t) ∧ W.cell? ⟨gn, on + k * 2, none⟩ = some (.int .u32 xa) ∧ W.cell? ⟨gn, on + k * 2 + 1, none⟩ = some (.int .i64 xn) ∧ W.cell? ⟨gz, oz + k, none⟩ = some (.int .i64 z))) (hx2 : 0 ≤ xa ∧ xa < 4294967296) (h1 : k < tl) (h2 : k < nl) (h3 : k < zl) (hlt : tl ≤ 9223372036854775806) (hln : nl ≤ 9223372036854775806) (hlz : zl ≤ 9223372036854775806) (hF : Fr (fun _ => False) w wr) (E2 : Int) (hwl : want.length ≤ 64) (hrd : Recs wr.heap aw 2 Nt.cells want) {Q : Exit → Act → World → Prop} (u4 u5 u6 u7 u8 u9 u11 u13 u18 u19 u20 u21 u22 u23 u24 u25 u26 u27 u28 u29 u30 u31 u32 u33 u34 u35 u36 u37 u38 u39 u40 u41 u42 u43 u44 u45 u46 u47 u48 u49 u50 u51 u52 u53 u54 u55 u56 u57 u58 u59 u60 u61 u62 u63 u64 u65 u66 u67 u68 u69 u70 u71 u72 u73 u74 u75 u76 u77 u78 u79 u80 u81 u82 u83 u84 u85 u86 u87 u88 u89 u90 u91 u92 u93 u94 u95 u96 u97 u98 u99 u100 u101 u102 u103 u104 u105 u106 u107 u108 u109 u110 u111 u112 u113 u114 u115 u116 u117 u118 u119 u120 u121 u122 u123 u124 u125 u126 u127 u128 u129 u130 u131 u132 u133 u134 u135 u136 u137 u138 u139 u140 u141 u142 u143 u144 u145 u146 u147 u148 u149 u150 u151 u152 u153 u154 u155 u156 u157 u158 u159 u160 u161 u162 u163 u164 u165 u166 u167 u168 u169 u170 u171 u172 u173 u174 u175 u176 u177 u178 u179 u180 u181 u182 u183 u184 u185 u186 u187 u188 u189 u190 u191 u192 u193 u194 u195 u196 u197 u198 u199 u200 u201 u202 u203 u204 u205 u206 u207 u208 u209 u210 u211 u212 u213 u214 u215 u216 u217 u218 u219 u220 u221 u222 u223 u224 u225 u226 u227 u228 u229 u230 u231 u232 u233 u234 u235 u236 u237 u238 u239 u240 u241 : Value)
    (hQ : ∀ (v4 v5 v6 v7 v8 v9 v11 v13 v18 v19 v20 v21 v22 v23 v24 v25 v26 v27 v28 v29 v30 v31 v32 v33 v34 v35 v36 v37 v38 v39 v40 v41 v42 v43 v44 v45 v46 v47 v48 v49 v50 v51 v52 v53 v54 v55 v56 v57 v58 v59 v60 v61 v62 v63 v64 v65 v66 v67 v68 v69 v70 v71 v72 v73 v74 v75 v76 v77 v78 v79 v80 v81 v82 v83 v84 v85 v86 v87 v88 v89 v90 v91 v92 v93 v94 v95 v96 v97 v98 v99 v100 v101 v102 v103 v104 v105 v106 v107 v108 v109 v110 v111 v112 v113 v114 v115 v116 v117 v118 v119 v120 v121 v122 v123 v124 v125 v126 v127 v128 v129 v130 v131 v132 v133 v134 v135 v136 v137 v138 v139 v140 v141 v142 v143 v144 v145 v146 v147 v148 v149 v150 v151 v152 v153 v154 v155 v156 v157 v158 v159 v160 v161 v162 v163 v164 v165 v166 v167 v168 v169 v170 v171 v172 v173 v174 v175 v176 v177 v178 v179 v180 v181 v182 v183 v184 v185 v186 v187 v188 v189 v190 v191 v192 v193 v194 v195 v196 v197 v198 v199 v200 v201 v202 v203 v204 v205 v206 v207 v208 v209 v210 v211 v212 v213 v214 v215 v216 v217 v218 v219 v220 v221 v222 v223 v224 v225 v226 v227 v228 v229 v230 v231 v232 v233 v234 v235 v236 v237 v238 v239 v240 v241 : Value), ∀ (wc : World), Fr (fun _ => False) wr wc → Q .normal ⟨#[.int .i64 hold, .slice (some ⟨gt, ot, none⟩) tl ct, .slice (some ⟨gn, on, none⟩) nl cn, .slice (some ⟨gz, oz, none⟩) zl cz, v4, v5, v6, v7, v8, v9, .pointer (some ⟨bt, 0, none⟩), v11, .int .i64 (eC t E2 want ⟨xa, xn⟩), v13, .int .i64 now, .int .i64 last, .slice aw want.length cw, .int .i64 k, v18, v19, v20, v21, v22, v23, v24, v25, v26, v27, v28, v29, v30, v31, v32, v33, v34, v35, v36, v37, v38, v39, v40, v41, v42, v43, v44, v45, v46, v47, v48, v49, v50, v51, v52, v53, v54, v55, v56, v57, v58, v59, v60, v61, v62, v63, v64, v65, v66, v67, v68, v69, v70, v71, v72, v73, v74, v75, v76, v77, v78, v79, v80, v81, v82, v83, v84, v85, v86, v87, v88, v89, v90, v91, v92, v93, v94, v95, v96, v97, v98, v99, v100, v101, v102, v103, v104, v105, v106, v107, v108, v109, v110, v111, v112, v113, v114, v115, v116, v117, v118, v119, v120, v121, v122, v123, v124, v125, v126, v127, v128, v129, v130, v131, v132, v133, v134, v135, v136, v137, v138, v139, v140, v141, v142, v143, v144, v145, v146, v147, v148, v149, v150, v151, v152, v153, v154, v155, v156, v157, v158, v159, v160, v161, v162, v163, v164, v165, v166, v167, v168, v169, v170, v171, v172, v173, v174, v175, v176, v177, v178, v179, v180, v181, v182, v183, v184, v185, v186, v187, v188, v189, v190, v191, v192, v193, v194, v195, v196, v197, v198, v199, v200, v201, v202, v203, v204, v205, v206, v207, v208, v209, v210, v211, v212, v213, v214, v215, v216, v217, v218, v219, v220, v221, v222, v223, v224, v225, v226, v227, v228, v229, v230, v231, v232, v233, v234, v235, v236, v237, v238, v239, v240, v241], []⟩ wc) :
    (ttB.stm 3).wp Tryd.prog Q ⟨#[.int .i64 hold, .slice (some ⟨gt, ot, none⟩) tl ct, .slice (some ⟨gn, on, none⟩) nl cn, .slice (some ⟨gz, oz, none⟩) zl cz, u4, u5, u6, u7, u8, u9, .pointer (some ⟨bt, 0, none⟩), u11, .int .i64 E2, u13, .int .i64 now, .int .i64 last, .slice aw want.length cw, .int .i64 k, u18, u19, u20, u21, u22, u23, u24, u25, u26, u27, u28, u29, u30, u31, u32, u33, u34, u35, u36, u37, u38, u39, u40, u41, u42, u43, u44, u45, u46, u47, u48, u49, u50, u51, u52, u53, u54, u55, u56, u57, u58, u59, u60, u61, u62, u63, u64, u65, u66, u67, u68, u69, u70, u71, u72, u73, u74, u75, u76, u77, u78, u79, u80, u81, u82, u83, u84, u85, u86, u87, u88, u89, u90, u91, u92, u93, u94, u95, u96, u97, u98, u99, u100, u101, u102, u103, u104, u105, u106, u107, u108, u109, u110, u111, u112, u113, u114, u115, u116, u117, u118, u119, u120, u121, u122, u123, u124, u125, u126, u127, u128, u129, u130, u131, u132, u133, u134, u135, u136, u137, u138, u139, u140, u141, u142, u143, u144, u145, u146, u147, u148, u149, u150, u151, u152, u153, u154, u155, u156, u157, u158, u159, u160, u161, u162, u163, u164, u165, u166, u167, u168, u169, u170, u171, u172, u173, u174, u175, u176, u177, u178, u179, u180, u181, u182, u183, u184, u185, u186, u187, u188, u189, u190, u191, u192, u193, u194, u195, u196, u197, u198, u199, u200, u201, u202, u203, u204, u205, u206, u207, u208, u209, u210, u211, u212, u213, u214, u215, u216, u217, u218, u219, u220, u221, u222, u223, u224, u225, u226, u227, u228, u229, u230, u231, u232, u233, u234, u235, u236, u237, u238, u239, u240, u241], []⟩ wr := by
  have HQ := Lib.hid hQ
  clear hQ
  conv => arg 2; whnf
  obtain ⟨et, f0, f1, ez⟩ := hb.out wr hF
  cases t with
  | true =>
    have HC := Lib.hid (show eC true E2 want ⟨xa, xn⟩ = E2 from if_neg (fun h => nomatch h.1))
    rw [HC.out] at HQ
    go_wp2
    exact HQ.out _ _ _ _ _ _ _ _ _ _ _ _ _ _ _ _ _ _ _ _ _ _ _ _ _ _ _ _ _ _ _ _ _ _ _ _ _ _ _ _ _ _ _ _ _ _ _ _ _ _ _ _ _ _ _ _ _ _ _ _ _ _ _ _ _ _ _ _ _ _ _ _ _ _ _ _ _ _ _ _ _ _ _ _ _ _ _ _ _ _ _ _ _ _ _ _ _ _ _ _ _ _ _ _ _ _ _ _ _ _ _ _ _ _ _ _ _ _ _ _ _ _ _ _ _ _ _ _ _ _ _ _ _ _ _ _ _ _ _ _ _ _ _ _ _ _ _ _ _ _ _ _ _ _ _ _ _ _ _ _ _ _ _ _ _ _ _ _ _ _ _ _ _ _ _ _ _ _ _ _ _ _ _ _ _ _ _ _ _ _ _ _ _ _ _ _ _ _ _ _ _ _ _ _ _ _ _ _ _ _ _ _ _ _ _ _ _ _ _ _ _ _ _ _ _ _ _ _ _ _ _ _ _ (Fr.refl _ _)
  | false =>
    by_cases h0 : E2 = 0
    · have e0 : (E2 == 0) = true := by simp [h0]
      by_cases h64 : 64 ≤ want.length
      · by_cases hm : (⟨xa, xn⟩ : Nt) ∈ want
        · have HC := Lib.hid (show eC false E2 want ⟨xa, xn⟩ = E2 from if_neg (fun h => h.2.2.2 hm))
          have HM := Lib.hid hm
          rw [HC.out] at HQ
          clear hm h0
          go_wp2_with (fail)
          refine (places_any want ⟨xa, xn⟩ aw cw wr hrd (by omega) rfl).mono ?_
          rintro e3 w3 ⟨p, rfl, hF3, hp, -, -⟩
          try dsimp only
          have hp3 : ¬ p < 0 := fun h => hp.1 h HM.out
          clear hp
          go_wp2
          exact HQ.out _ _ _ _ _ _ _ _ _ _ _ _ _ _ _ _ _ _ _ _ _ _ _ _ _ _ _ _ _ _ _ _ _ _ _ _ _ _ _ _ _ _ _ _ _ _ _ _ _ _ _ _ _ _ _ _ _ _ _ _ _ _ _ _ _ _ _ _ _ _ _ _ _ _ _ _ _ _ _ _ _ _ _ _ _ _ _ _ _ _ _ _ _ _ _ _ _ _ _ _ _ _ _ _ _ _ _ _ _ _ _ _ _ _ _ _ _ _ _ _ _ _ _ _ _ _ _ _ _ _ _ _ _ _ _ _ _ _ _ _ _ _ _ _ _ _ _ _ _ _ _ _ _ _ _ _ _ _ _ _ _ _ _ _ _ _ _ _ _ _ _ _ _ _ _ _ _ _ _ _ _ _ _ _ _ _ _ _ _ _ _ _ _ _ _ _ _ _ _ _ _ _ _ _ _ _ _ _ _ _ _ _ _ _ _ _ _ _ _ _ _ _ _ _ _ _ _ _ _ _ _ _ _ hF3
        · have HC := Lib.hid (show eC false E2 want ⟨xa, xn⟩ = 4 from if_pos ⟨rfl, h0, h64, hm⟩)
          have HM := Lib.hid hm
          rw [HC.out] at HQ
          clear hm h0
          go_wp2_with (fail)
          refine (places_any want ⟨xa, xn⟩ aw cw wr hrd (by omega) rfl).mono ?_
          rintro e3 w3 ⟨p, rfl, hF3, hp, -, -⟩
          try dsimp only
          have hp3 : p < 0 := hp.2 HM.out
          clear hp
          go_wp2
          exact HQ.out _ _ _ _ _ _ _ _ _ _ _ _ _ _ _ _ _ _ _ _ _ _ _ _ _ _ _ _ _ _ _ _ _ _ _ _ _ _ _ _ _ _ _ _ _ _ _ _ _ _ _ _ _ _ _ _ _ _ _ _ _ _ _ _ _ _ _ _ _ _ _ _ _ _ _ _ _ _ _ _ _ _ _ _ _ _ _ _ _ _ _ _ _ _ _ _ _ _ _ _ _ _ _ _ _ _ _ _ _ _ _ _ _ _ _ _ _ _ _ _ _ _ _ _ _ _ _ _ _ _ _ _ _ _ _ _ _ _ _ _ _ _ _ _ _ _ _ _ _ _ _ _ _ _ _ _ _ _ _ _ _ _ _ _ _ _ _ _ _ _ _ _ _ _ _ _ _ _ _ _ _ _ _ _ _ _ _ _ _ _ _ _ _ _ _ _ _ _ _ _ _ _ _ _ _ _ _ _ _ _ _ _ _ _ _ _ _ _ _ _ _ _ _ _ _ _ _ _ _ _ _ _ _ hF3
      · have HC := Lib.hid (show eC false E2 want ⟨xa, xn⟩ = E2 from if_neg (fun h => h64 h.2.2.1))
        rw [HC.out] at HQ
        clear h0
        go_wp2
        exact HQ.out _ _ _ _ _ _ _ _ _ _ _ _ _ _ _ _ _ _ _ _ _ _ _ _ _ _ _ _ _ _ _ _ _ _ _ _ _ _ _ _ _ _ _ _ _ _ _ _ _ _ _ _ _ _ _ _ _ _ _ _ _ _ _ _ _ _ _ _ _ _ _ _ _ _ _ _ _ _ _ _ _ _ _ _ _ _ _ _ _ _ _ _ _ _ _ _ _ _ _ _ _ _ _ _ _ _ _ _ _ _ _ _ _ _ _ _ _ _ _ _ _ _ _ _ _ _ _ _ _ _ _ _ _ _ _ _ _ _ _ _ _ _ _ _ _ _ _ _ _ _ _ _ _ _ _ _ _ _ _ _ _ _ _ _ _ _ _ _ _ _ _ _ _ _ _ _ _ _ _ _ _ _ _ _ _ _ _ _ _ _ _ _ _ _ _ _ _ _ _ _ _ _ _ _ _ _ _ _ _ _ _ _ _ _ _ _ _ _ _ _ _ _ _ _ _ _ _ _ _ _ _ _ _ (Fr.refl _ _)
    · have e0 : (E2 == 0) = false := by simp [h0]
      have HC := Lib.hid (show eC false E2 want ⟨xa, xn⟩ = E2 from if_neg (fun h => h0 h.2.1))
      rw [HC.out] at HQ
      clear h0
      go_wp2
      exact HQ.out _ _ _ _ _ _ _ _ _ _ _ _ _ _ _ _ _ _ _ _ _ _ _ _ _ _ _ _ _ _ _ _ _ _ _ _ _ _ _ _ _ _ _ _ _ _ _ _ _ _ _ _ _ _ _ _ _ _ _ _ _ _ _ _ _ _ _ _ _ _ _ _ _ _ _ _ _ _ _ _ _ _ _ _ _ _ _ _ _ _ _ _ _ _ _ _ _ _ _ _ _ _ _ _ _ _ _ _ _ _ _ _ _ _ _ _ _ _ _ _ _ _ _ _ _ _ _ _ _ _ _ _ _ _ _ _ _ _ _ _ _ _ _ _ _ _ _ _ _ _ _ _ _ _ _ _ _ _ _ _ _ _ _ _ _ _ _ _ _ _ _ _ _ _ _ _ _ _ _ _ _ _ _ _ _ _ _ _ _ _ _ _ _ _ _ _ _ _ _ _ _ _ _ _ _ _ _ _ _ _ _ _ _ _ _ _ _ _ _ _ _ _ _ _ _ _ _ _ _ _ _ _ _ (Fr.refl _ _)

end Go.Proofs.YtfjempfffdeklaaDoor
