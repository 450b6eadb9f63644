import Derived.Test.YtfglidaicjjpfaaDmAll
import Derived.Test.YtfglidaicjjpfaaDelBest
namespace Go.Proofs.Ytfglidaicjjpfaa
open Go.RowKit Go.Maps

theorem bestD_bd {w : World} {base : Nat} {D : DC} {now : Int} {l : List Td} {bad : Int} (h : Dmn w base D now l bad) (q : Nt) : 1 ≤ (bestD D l q).1 ∧ (bestD D l q).1 ≤ 16 ∧ (bestD D l q).2.length ≤ 4 ∧ ∀ z ∈ (bestD D l q).2, 0 ≤ z ∧ z < D.costs.length := by
  unfold bestD
  split
  · exact ⟨by simp, by simp, by simp, fun _ hz => nomatch hz⟩
  · have hl : ∀ x ∈ hdL l, 1 ≤ x.m ∧ x.m ≤ 16 := fun x hx => by
      obtain ⟨y, hy, rfl⟩ := List.mem_map.1 hx
      have := h.ok.each y hy
      exact ⟨this.m0, this.m1⟩
    obtain ⟨p1, p2, p3, p4, -⟩ := chK_bd (fun i => lastO (hdL l) i q.a q.n) D.costs (fun i m hm => lastO_bd hl hm) (nearE_ok h.near).2 D.costs.length (Nat.le_refl _)
    exact ⟨by unfold bestM; omega, p2, p3, fun z hz => by have := p4 z hz; omega⟩
/-- The ways that there are. -/
structure TabR (D : DC) (l : List Td) (R : List BestR) : Prop where
  srt : NSorted (R.map bnet)
  mem : ∀ q : Nt, q ∈ R.map bnet ↔ (q ∈ D.own ∨ ∃ x ∈ l, (⟨x.a, x.n⟩ : Nt) = q) ∧ (bestD D l q).1 < 16
  val : ∀ r ∈ R, (r.m, r.h) = bestD D l (bnet r)
  len : R.length ≤ 89
def RetDTab (w : World) (D : DC) (l : List Td) (e : Ending) (w' : World) : Prop :=
  ∃ (R : List BestR) (aR : Option Addr) (cR : Nat) (ob : Option Nat), e = .returned (.slice aR R.length cR) ∧ Alls w.heap.size w'.heap R aR cR ob ∧ TabR D l R ∧ Fr (fun _ => False) w w'
set_option maxRecDepth 100000 in
theorem table1_any (x : BestR) (w : World) : Calls Try.prog 44 #[.agg #[.int .u32 x.a, .int .i64 x.n, .int .i64 x.m, .slice x.A x.h.length x.C]] w (RetV w (.bool (x.m == 16))) := by
  obtain ⟨xa, xn, xm, xh, xA, xC⟩ := x
  simp only
  generalize xh.length = xl
  go_enter Try.func44, Try.ntmps44
  go_wp2
  go_ret
  exact RetV.mk rfl rfl ((Fr.refl _ _).alloc _)
theorem tabR_of {w : World} {base : Nat} {D : DC} {now : Int} {l : List Td} {bad : Int} (h : Dmn w base D now l bad) {R : List BestR} (hR : AllR D l R) : TabR D l (R.filter fun x => !(x.m == 16)) := by
  have hm : ∀ r ∈ R, (bestD D l (bnet r)).1 = r.m := fun r hr => by rw [← hR.val r hr]
  refine ⟨?_, fun q => ?_, fun r hr => hR.val r (List.mem_filter.1 hr).1, Nat.le_trans (List.length_filter_le _ _) hR.len⟩
  · exact List.Pairwise.sublist ((List.filter_sublist).map bnet) hR.srt
  · rw [List.mem_map]
    have hbd := bestD_bd h q
    constructor
    · rintro ⟨r, hr, rfl⟩
      obtain ⟨h1, h2⟩ := List.mem_filter.1 hr
      refine ⟨(hR.mem _).1 (List.mem_map.2 ⟨r, h1, rfl⟩), ?_⟩
      have h3 := hm r h1
      have h4 : r.m ≠ 16 := by simpa using h2
      omega
    · rintro ⟨h1, h2⟩
      obtain ⟨r, hr, rfl⟩ := List.mem_map.1 ((hR.mem q).2 h1)
      refine ⟨r, List.mem_filter.2 ⟨hr, ?_⟩, rfl⟩
      have h3 := hm r hr
      have h4 : r.m ≠ 16 := by omega
      simpa using h4
theorem Alls.filter {base : Nat} {w w' : World} {R : List BestR} {a a' : Option Addr} {c c' : Nat} {ob : Option Nat} (h : Alls base w.heap R a c ob) (p : BestR → Bool) (hO : Own w'.heap 50 4 a' (R.filter p).length c' ((R.filter p).flatMap BestR.cells) ob) (hF : Fr (fun k => ob = some k) w w') : Alls base w'.heap (R.filter p) a' c' ob :=
  ⟨hO, h.new, fun x hx => by
    obtain ⟨o, h1, h2⟩ := h.row x (List.mem_filter.1 hx).1
    exact ⟨o, h1.fr hF (fun g hg e => (h2 g hg).2 e), h2⟩, h.pw.sublist List.filter_sublist⟩
set_option maxRecDepth 100000 in
set_option maxHeartbeats 2000000 in
theorem dtab_any {base : Nat} {D : DC} {now : Int} {l : List Td} {bad : Int} (w : World) (hD : Dmn w base D now l bad) :
    Calls Try.prog 14 #[.pointer (some ⟨D.bd, 0, none⟩)] w (RetDTab w D l) := by
  have H := Lib.hid hD
  go_enter Try.func14, Try.ntmps14
  go_wp2_with (fail)
  refine (dall_any w hD).mono ?_
  rintro e1 w1 ⟨R, aR, cR, ob, rfl, hA, hR, hF⟩
  have hle := hR.len
  have HR := Lib.hid hR
  have HA := Lib.hid hA
  obtain ⟨n, hn⟩ : ∃ n, n = R.length := ⟨_, rfl⟩
  have hO : Own w1.heap 50 4 aR n cR (R.flatMap BestR.cells) ob := by rw [hn]; exact hA.own
  rw [← hn] at hle
  rw [show (Value.slice aR R.length cR) = .slice aR n cR by rw [hn]]
  have HN := Lib.hid hn.symm
  clear hD hR hA hn
  go_wp2_with (fail)
  refine (dbest_del R (fun x => x.m == 16) aR cR ob w1 hO HN.out (by omega) (fun x _ w' _ => table1_any x w')).mono ?_
  rintro e2 w2 ⟨a2, c2, m2, rfl, hm2, hO2, hF2⟩
  subst hm2
  have HT := Lib.hid (tabR_of H.out HR.out)
  have HA2 := Lib.hid (HA.out.filter (fun x => !(x.m == 16)) hO2 hF2)
  have hFe : Fr (fun _ => False) w w2 := hF.trans' hF2 (fun q hq e => by have := HA.out.new q e; omega)
  generalize (R.filter fun x => !(x.m == 16)) = S at *
  clear hO2 hF2 hO
  go_wp2
  go_ret
  exact ⟨S, a2, c2, ob, rfl, HA2.out, HT.out, hFe⟩
end Go.Proofs.Ytfglidaicjjpfaa
