import Derived.Test.YtgfbkebbnfcgkaaRow
import Derived.Test.YtgfbkebbnfcgkaaRows
import Derived.Test.YtgfbkebbnfcgkaaQRt35
section
namespace Go.Proofs.Ytgfbkebbnfcgkaa
open Go.ChangeShapes Go.WideShapes Go.ChangeAt Go.RowKit

theorem own : ownKnob Try.prog.godebug = none := by kernel_rfl
theorem laidOut : laidOutB Try.prog = true := by kernel_rfl
theorem cellsInt : Try.prog.cellsOf 3 = 1 := by kernel_rfl
theorem cellsInts : Try.prog.cellsOf 31 = 1 := by kernel_rfl

theorem bulk_len {H : Type} (l : List (DataW H)) : l.length ≤ Rows.uptoBulkAll l := by
  induction l with
  | nil => simp [Rows.uptoBulkAll]
  | cons d r ih =>
    have : 1 ≤ Rows.uptoBulk d := by
      cases d with
      | lit l => cases l <;> simp [Rows.uptoBulk]
      | _ => simp [Rows.uptoBulk]
    simp only [List.length_cons, Rows.uptoBulkAll]
    omega
/-- A slice's cells are counted. -/
theorem bulk_slice {H : Type} {d : DataW H} {c : Nat} (h : c = 0 ∨ ∃ el sp, d = .slice el sp ∧ el.length + sp.length = c) : c ≤ Rows.uptoBulk d := by
  rcases h with rfl | ⟨el, sp, rfl, rfl⟩
  · omega
  · have h1 := bulk_len el
    have h2 := bulk_len sp
    simp only [Rows.uptoBulk]
    omega
theorem small_all {H : Type} {l : List (DataW H)} (hk : Rows.uptoSmall H l = true) : Rows.uptoBulkAll l ≤ 1048576 := of_decide_eq_true hk
end Go.Proofs.Ytgfbkebbnfcgkaa
end

section
namespace Go
open Go.ChangeShapes Go.WideShapes Go.ChangeAt Go.RowKit
/-- How many bytes a slice that came in may take. -/
theorem slice_small {H : Type} {P : Program} {ts : List TypeId} {ds : List (DataW H)} {j n c k : Nat} {t e : TypeId} (hsz : (DataW.weightsEach P ts ds).all (· ≤ reachBytes) = true) {d : DataW H} (ht : ts[j]? = some t) (hd : ds[j]? = some d)
    (hu : P.underlying t = some (.slice e)) (hk : P.bytesOf e = k) (hn : n ≤ c) (hs : c = 0 ∨ ∃ el sp, d = .slice el sp ∧ el.length + sp.length = c) : n * k ≤ 140737488351232 := by
  subst hk
  rcases hs with h | ⟨el, sp, rfl, h⟩
  · have : n = 0 := by omega
    subst this; simp
  · have := sized_slice hsz ht hd hu
    have hr : reachBytes = 140737488351232 := rfl
    rw [h, hr] at this
    exact Nat.le_trans (Nat.mul_le_mul_right _ hn) this
/-- How many bytes a slice within a record of a slice that came in may take. -/
theorem field_small {H : Type} {P : Program} {ts : List TypeId} {ds : List (DataW H)} {j k : Nat} {t e q r : TypeId} {fs : Array Field} {el sp e' s' parts : List (DataW H)} (hsz : (DataW.weightsEach P ts ds).all (· ≤ reachBytes) = true) (ht : ts[j]? = some t) (hd : ds[j]? = some (.slice el sp))
    (hu : P.underlying t = some (.slice e)) (he : P.underlying e = some (.struct fs)) (hm : DataW.agg parts ∈ el) (hp : parts[k]? = some (.slice e' s')) (hf : (fs.toList.map (·.type))[k]? = some q) (hq : P.underlying q = some (.slice r)) : (e'.length + s'.length) * P.bytesOf r ≤ reachBytes := by
  refine of_decide_eq_true (List.all_eq_true.1 hsz _ (DataW.weights_mem_each ht hd _ ?_))
  have key : ∀ l : List (DataW H), DataW.agg parts ∈ l → (e'.length + s'.length) * P.bytesOf r ∈ DataW.weightsAll P e l := by
    intro l
    induction l with
    | nil => intro h; cases h
    | cons x l ih =>
      intro h
      simp only [DataW.weightsAll, List.mem_append]
      rcases List.mem_cons.1 h with rfl | h
      · left
        simp only [DataW.weights, he]
        exact DataW.weights_mem_each hf hp _ (by simp [DataW.weights, hq])
      · right; exact ih h
  simp only [DataW.weights, hu, List.mem_cons, List.mem_append]
  exact .inr (.inl (key el hm))
end Go
end

section
/- TopRouters: for every n and every list of links, the law answers true, and what came in reads as it did; no condition. -/
namespace Go.Proofs.Ytgfbkebbnfcgkaa
open Go.ChangeShapes Go.WideShapes Go.ChangeAt Go.RowKit

set_option maxRecDepth 100000 in
theorem topRouters_lifted (os : Os) (started : os.Started) (H : Type) (enc : TypeId × Value → H) :
    ReturnsInHanded {} Try.checked os 3 .any (Rows.topRoutersSpec.pre6 enc Try.prog Try.f3 Rows.topRoutersRow.domain false) (Rows.topRoutersSpec.post enc Try.prog Try.f3 false true false false) := by
  refine law_lift (C := Try.checked) own laidOut (by kernel_rfl) Try.func3 rfl rfl Try.underlying4 (by kernel_rfl) os started H enc
    (ChangeSpec.witness6 (enc := enc) (C := Try.checked) false ⟨#[], #[.int .i64 0, .slice none 0 0], []⟩ 8 (by kernel_rfl) (by kernel_rfl) (by kernel_rfl) (by kernel_rfl)) ?_
  intro W base args ds p hval hA hlt hsz
  rw [Try.params3] at hA hval hsz
  obtain ⟨v0, vs0, d0, ds0, p0, q0, hargs, rfl, rfl, h0, r0⟩ := trodAll_cons hA
  obtain ⟨v1, vs1, d1, ds1, p1, q1, rfl, rfl, rfl, h1, r1⟩ := trodAll_cons r0
  obtain ⟨rfl, rfl, rfl⟩ := trodAll_nil r1
  obtain rfl : args = #[v0, v1] := by cases args; simp_all
  obtain ⟨x0, rfl, rfl, rfl, k0⟩ := open_int Try.underlying3 (hval 0 3 v0 rfl rfl) h0
  obtain ⟨a1, x1, c1, rfl, k1, j1, i1, n1, y1, s1⟩ := arg_links Try.underlying22 Try.underlying54 (by kernel_rfl) rfl rfl rfl Try.underlying3 Try.underlying3 Try.underlying3 cellsInt cellsInt cellsInt (hval 1 22 v1 rfl rfl) h1 (fun x hx => hlt x (by simp [hx]))
  refine ⟨?_, rfl, rfl, rfl⟩
  exact topRouters_any x0 x1 a1 c1 W k1 (by have := slice_small (k := 24) hsz (j := 1) rfl rfl Try.underlying22 (by kernel_rfl) j1 s1; omega) n1

theorem topRouters_over : Rows.topRoutersRow.holds Try.pinned (OpenSpec.ofChange Rows.topRoutersSpec) :=
  OpenClaim.holds_of_wide 3 Try.f3 rfl rfl rfl rfl rfl rfl rfl ⟨rfl, rfl, rfl, rfl, rfl⟩ rfl rfl rfl rfl rfl (by kernel_rfl) Try.func3 (by kernel_rfl)
    (of_decide_eq_true (by kernel_rfl)) (by unfold Func.isWrapper; first | (rw [if_pos (by decide +kernel)]; kernel_rfl) | (rw [if_neg (by decide +kernel)]; exact ⟨rfl, rfl⟩))
    (fun os started H enc _ => topRouters_lifted os started H enc)

theorem topRouters_holds : Rows.TopRoutersSaid := topRouters_over
end Go.Proofs.Ytgfbkebbnfcgkaa
end
