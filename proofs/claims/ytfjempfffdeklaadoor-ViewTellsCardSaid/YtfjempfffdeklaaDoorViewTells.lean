import Derived.Test.YtfjempfffdeklaaDoorViewed
import Derived.Test.YtfjempfffdeklaaDoorViewOf
import Derived.Test.YtfjempfffdeklaaDoorEnSame
import Derived.Test.YtfjempfffdeklaaDoorErrSame
namespace Go.Proofs.YtfjempfffdeklaaDoor
open Go.RowKit

theorem viewErr_pos {to : Int} {l : List BestR} {k : Int} (h : viewErr to l = some k) : k ≠ 0 := by
  unfold viewErr at h
  split at h
  · cases h; decide
  · have : ∀ (l : List BestR) (s : List Nt), viewErrL s l = some k → k ≠ 0 := by
      intro l
      induction l with
      | nil => intro s h; cases h
      | cons b l ih =>
        intro s h
        unfold viewErrL at h
        split at h
        · rename_i j hj
          cases h
          unfold viewErr1 at hj
          split at hj
          · rename_i e he
            cases hj
            exact netErr_pos he
          · split at hj
            · cases hj; decide
            · split at hj
              · cases hj; decide
              · cases hj
        · exact ih _ h
    exact this l [] h
set_option maxRecDepth 100000 in
set_option maxHeartbeats 4000000 in
theorem viewTells_any (l : List BestR) (al : Option Addr) (c : Nat) (to : Int) (poison : Bool) (w : World) (hg : Hd w) (hL : Bests w.heap al l) (hl : l.length * 48 ≤ 140737488351232) :
    Calls Tryd.prog 3 #[.slice al l.length c, .int .i64 to, .bool poison] w (RetV w (.bool true)) := by
  go_enter Tryd.func3, Tryd.ntmps3
  go_wp2_with (fail)
  refine (viewed_any w).mono ?_
  rintro e1 w1 ⟨rfl, hF1⟩
  go_wp2_with (fail)
  refine (viewOf_any l al c to poison w1 (hL.fr0 hF1 (fun _ _ h => h)) hl).mono ?_
  intro e2 w2 R2
  cases hE : viewErr to l with
  | some k =>
    obtain ⟨rfl, hF2⟩ : RetV w1 (.tuple #[.slice none 0 0, .int .i64 k]) e2 w2 := by rw [hE] at R2; exact R2
    have hF02 := hF1.trans hF2
    go_wp2_with (fail)
    refine (view_any l al c to poison w2 (hL.fr0 hF02 (fun _ _ h => h)) hl).mono ?_
    intro e3 w3 R3
    obtain ⟨rfl, hF3⟩ := R3.getS hE
    have hF03 := hF02.trans hF3
    clear R3 hE
    go_wp2_with (fail)
    refine (error_any (some k) k w3 (hg.none hF03)).mono ?_
    rintro e4 w4 ⟨rfl, hF4⟩
    have hdg : (errN (some k) == k) = true := by simp [errN]
    rw [hdg]
    clear hdg
    have hF04 := hF03.trans hF4
    go_wp2_with (fail)
    refine (sents_any [] [] none none 0 0 w4 (Rd.nil _ _ _) (Rd.nil _ _ _) (by simp) (by simp) rfl rfl).mono ?_
    rintro e5 w5 ⟨rfl, n5, rfl⟩
    rw [decide_eq_true rfl]
    go_wp2
    go_ret
    exact RetV.mk rfl rfl (hF04.drewN n5)
  | none =>
    obtain ⟨a2, c2, ob2, rfl, hO2, hF2, hN2⟩ : ∃ a c ob, e2 = .returned (.tuple #[.slice a (viewOut to poison l).length c, .int .i64 0]) ∧ Own w2.heap 43 5 a (viewOut to poison l).length c ((viewOut to poison l).flatMap En.cells) ob ∧ Fr (fun _ => False) w1 w2 ∧ (∀ g, ob = some g → w1.heap.size ≤ g) := by rw [hE] at R2; exact R2
    have hF02 := hF1.trans hF2
    go_wp2_with (fail)
    refine (view_any l al c to poison w2 (hL.fr0 hF02 (fun _ _ h => h)) hl).mono ?_
    intro e3 w3 R3
    obtain ⟨a3, c3, ob3, rfl, hO3, hF3, hN3⟩ := R3.getN hE
    have hF03 := hF02.trans hF3
    clear R3 hE
    go_wp2_with (fail)
    refine (error_any none 0 w3 (hg.none hF03)).mono ?_
    rintro e4 w4 ⟨rfl, hF4⟩
    have hdg : (errN none == 0) = true := by simp [errN]
    rw [hdg]
    clear hdg
    have hF04 := hF03.trans hF4
    have hvl := viewOut_len to poison l
    have hO24 := hO2.fr (hF3.trans hF4) (fun _ _ h => h)
    have hO34 := hO3.fr hF4 (fun _ _ h => h)
    go_wp2_with (fail)
    refine (sents_any (viewOut to poison l) (viewOut to poison l) a3 a2 c3 c2 w4 hO34.rd hO24.rd (by omega) (by omega) rfl rfl).mono ?_
    rintro e5 w5 ⟨rfl, n5, rfl⟩
    rw [decide_eq_true rfl]
    go_wp2
    go_ret
    exact RetV.mk rfl rfl (hF04.drewN n5)
end Go.Proofs.YtfjempfffdeklaaDoor
