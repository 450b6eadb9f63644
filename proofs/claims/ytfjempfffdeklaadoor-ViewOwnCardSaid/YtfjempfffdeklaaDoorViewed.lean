import Derived.Test.YtfjempfffdeklaaDoorViewW
namespace Go.Proofs.YtfjempfffdeklaaDoor
open Go.RowKit

set_option maxRecDepth 100000 in
theorem ten3_any (w : World) : Calls Tryd.prog 69 #[] w (fun e w' => e = .returned (.agg #[.int .u32 167772160, .int .i64 8]) ∧ w' = w.alloc (.cells #[.int .u32 167772160, .int .i64 8] 37)) := by
  go_enter Tryd.func69, Tryd.ntmps69
  go_wp2
  exact bodyPost_ret (v := .agg #[.int .u32 167772160, .int .i64 8]) (by simp [results, Tryd.results69, go_sem]) rfl ⟨rfl, rfl⟩
theorem RetView.getN {w w' : World} {to : Int} {poison : Bool} {l : List BestR} {r : Option Int} {e : Ending} (h : RetView w to poison l r e w') (hr : r = none) : ∃ a c ob, e = .returned (.tuple #[.slice a (viewOut to poison l).length c, .nilIface]) ∧ Own w'.heap 43 5 a (viewOut to poison l).length c ((viewOut to poison l).flatMap En.cells) ob ∧ Fr (fun _ => False) w w' ∧ (∀ g, ob = some g → w.heap.size ≤ g) := by
  subst hr; exact h
theorem RetView.getS {w w' : World} {to : Int} {poison : Bool} {l : List BestR} {r : Option Int} {k : Int} {e : Ending} (h : RetView w to poison l r e w') (hr : r = some k) : RetV w (.tuple #[.slice none 0 0, errv k]) e w' := by
  subst hr; exact h
abbrev oneB (g : Nat) : BestR := ⟨167772160, 8, 5, [1], some ⟨g, 0, none⟩, 1⟩
theorem oneB_wf (g : Nat) : BestR.wf (oneB g) :=
  ⟨⟨(by decide : (0 : Int) ≤ 167772160), (by decide : (167772160 : Int) < 4294967296), (by decide : (Lit.int .i64 8).wf = true)⟩, (by decide : (Lit.int .i64 5).wf = true), Nat.le_refl 1, (by decide : 1 ≤ maxLen), (fun z hz => by rw [List.mem_singleton.1 hz]; decide), fun h => nomatch h⟩
theorem oneB_ok (g : Nat) : viewErr 1 [oneB g] = none := by
  have h1 : netErr 167772160 8 = none := by decide
  have h2 : viewErr1 [] (oneB g) = none := by
    unfold viewErr1
    simp only [h1]
    rw [if_neg (by decide), if_neg (by simp)]
  unfold viewErr
  rw [if_neg (by decide)]
  unfold viewErrL
  rw [h2]
  rfl
set_option maxRecDepth 100000 in
set_option maxHeartbeats 1000000 in
theorem viewed_any (w : World) : Calls Tryd.prog 13 #[] w (RetV w (.bool true)) := by
  go_enter Tryd.func13, Tryd.ntmps13
  go_wp2_with (fail)
  refine (ten3_any w).mono ?_
  rintro e1 w1 ⟨rfl, hw1⟩
  have hF1 : Fr (fun _ => False) w w1 := by rw [hw1]; exact (Fr.refl _ _).alloc _
  clear hw1
  go_wp2_with (fail)
  have hB : Bests ((w1.alloc (.cells #[.int .i64 1] 3)).alloc (.cells #[.int .u32 167772160, .int .i64 8, .int .i64 5, .slice (some ⟨w1.heap.size, 0, none⟩) 1 1] 40)).heap (some ⟨w1.heap.size + 1, 0, none⟩) [oneB w1.heap.size] := by
    refine ⟨rd_box w1 (.cells #[.int .i64 1] 3) 40 (BestR.cells (oneB w1.heap.size)), fun x hx => ?_, fun x hx => ?_⟩
    · rw [List.mem_singleton.1 hx]
      exact oneB_wf _
    · rw [List.mem_singleton.1 hx]
      exact ((Own.made w1 3 1 1 [.int .i64 1] rfl (by decide)).alloc _).rd
  have hE := oneB_ok w1.heap.size
  have hV : viewOut 1 true [oneB w1.heap.size] = [⟨167772160, 8, 0, 0, 16⟩] := by rfl
  refine (view_any [oneB w1.heap.size] _ 1 1 true _ hB (by simp)).mono ?_
  intro e2 w2 R2
  obtain ⟨a2, c2, ob2, he2, hO2, hF2, -⟩ := R2.getN hE
  rw [hV] at he2 hO2
  subst he2
  obtain ⟨g, rfl, -, hg, hc, -⟩ := hO2.pos (by decide)
  have d := hc 4 (by decide)
  simp only [List.flatMap_cons, List.flatMap_nil, List.append_nil, En.cells, List.getElem?_cons_succ, List.getElem?_cons_zero] at d
  have hF := ((hF1.alloc (.cells #[.int .i64 1] 3)).alloc (.cells #[.int .u32 167772160, .int .i64 8, .int .i64 5, .slice (some ⟨w1.heap.size, 0, none⟩) 1 1] 40)).trans hF2
  clear hE hV hB hO2 hc R2 hF2
  go_wp2
  go_ret
  exact RetV.mk rfl rfl hF

end Go.Proofs.YtfjempfffdeklaaDoor
