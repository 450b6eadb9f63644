import Derived.Test.YtlmoaompmiobjaaMatOwn
import Derived.Test.YtlmoaompmiobjaaRowA
namespace Go.Proofs.Ytlmoaompmiobjaa
open Go.ChangeShapes Go.WideShapes Go.ChangeAt Go.RowKit

theorem bytesInt : Try.checked.prog.bytesOf 3 = 8 := by kernel_rfl
theorem bytesInts : Try.checked.prog.bytesOf 28 = 24 := by kernel_rfl
theorem top_small {H : Type} {ts : List TypeId} {ds : List (DataW H)} {j n c : Nat} (hsz : (DataW.weightsEach Try.checked.prog ts ds).all (· ≤ reachBytes) = true) {d : DataW H} (ht : ts[j]? = some 27) (hd : ds[j]? = some d) (hn : n ≤ c)
    (h : c = 0 ∨ ∃ el sp, d = .slice el sp ∧ el.length + sp.length = c) : n * 24 ≤ 140737488351232 := by
  rcases h with h | ⟨el, sp, rfl, h⟩
  · omega
  · have := sized_slice hsz ht hd Try.underlying27
    rw [bytesInts] at this
    have hr : reachBytes = 140737488351232 := rfl
    omega
theorem rows_small {H : Type} {ts : List TypeId} {ds : List (DataW H)} {j : Nat} (hsz : (DataW.weightsEach Try.checked.prog ts ds).all (· ≤ reachBytes) = true) {d : DataW H} (ht : ts[j]? = some 27) (hd : ds[j]? = some d) {rs : List (List Int)} {C : Nat → Nat}
    (hl : ∀ i, i < rs.length → (nth rs i).length ≤ C i) (h : ∀ i, i < rs.length → nth rs i = [] ∨ ∃ el sp e' s', d = .slice el sp ∧ DataW.slice e' s' ∈ el ∧ e'.length + s'.length = C i) : ∀ i, i < rs.length → (nth rs i).length * 8 ≤ 140737488351232 := by
  intro i hi
  rcases h i hi with h | ⟨el, sp, e', s', rfl, h1, h2⟩
  · rw [h]; decide
  · have := sized_rows hsz ht hd Try.underlying27 Try.underlying28 h1
    rw [bytesInt] at this
    have hr : reachBytes = 140737488351232 := rfl
    have := hl i hi
    omega

set_option maxRecDepth 100000 in
theorem matOwn_lifted (os : Os) (started : os.Started) (H : Type) (enc : TypeId × Value → H) :
    ReturnsInHanded {} Try.checked os 8 .any (Rows.matOwnSpec.pre6 enc Try.prog Try.f8 Rows.matOwnRow.domain false) (Rows.matOwnSpec.post enc Try.prog Try.f8 false true false false) := by
  refine law_lift (C := Try.checked) own laidOut (by kernel_rfl) Try.func8 rfl rfl Try.underlying4 (by kernel_rfl) os started H enc
    (ChangeSpec.witness6 (enc := enc) (C := Try.checked) false ⟨#[], #[.slice none 0 0, .slice none 0 0, .int .i64 0], []⟩ 8 (by kernel_rfl) (by kernel_rfl) (by kernel_rfl) (by kernel_rfl)) ?_
  intro W base args ds p hval hA hlt hsz
  rw [Try.params8] at hA hval hsz
  obtain ⟨v0, vs0, d0, ds0, p0, q0, hargs, rfl, rfl, h0, r0⟩ := trodAll_cons hA
  obtain ⟨v1, vs1, d1, ds1, p1, q1, rfl, rfl, rfl, h1, r1⟩ := trodAll_cons r0
  obtain ⟨v2, vs2, d2, ds2, p2, q2, rfl, rfl, rfl, h2, r2⟩ := trodAll_cons r1
  obtain ⟨rfl, rfl, rfl⟩ := trodAll_nil r2
  obtain rfl : args = #[v0, v1, v2] := by cases args; simp_all
  obtain ⟨a0, x0, c0, A0, C0, rfl, k0, j0, i0, n0, y0, y'0, z0, s0, u0⟩ := arg_rows Try.underlying27 Try.underlying28 Try.underlying3 cellsInts cellsInt (hval 0 27 v0 rfl rfl) h0 (fun x hx => hlt x (by simp [hx]))
  obtain ⟨a1, x1, c1, A1, C1, rfl, k1, j1, i1, n1, y1, y'1, z1, s1, u1⟩ := arg_rows Try.underlying27 Try.underlying28 Try.underlying3 cellsInts cellsInt (hval 1 27 v1 rfl rfl) h1 (fun x hx => hlt x (by simp [hx]))
  obtain ⟨x2, rfl, rfl, rfl, k2⟩ := open_int Try.underlying3 (hval 2 3 v2 rfl rfl) h2
  refine ⟨?_, rfl, rfl, rfl⟩
  exact matown_any x0 x1 a0 a1 c0 c1 A0 A1 C0 C1 x2 W k0 k1 (top_small (j := 0) hsz rfl rfl j0 s0) (top_small (j := 1) hsz rfl rfl j1 s1) (rows_small (j := 0) hsz rfl rfl z0 u0) (rows_small (j := 1) hsz rfl rfl z1 u1)

theorem matOwn_over : Rows.matOwnRow.holds Try.pinned (OpenSpec.ofChange Rows.matOwnSpec) :=
  OpenClaim.holds_of_wide 8 Try.f8 rfl rfl rfl rfl rfl rfl rfl ⟨rfl, rfl, rfl, rfl, rfl⟩ rfl rfl rfl rfl rfl (by kernel_rfl) Try.func8 (by kernel_rfl)
    (of_decide_eq_true (by kernel_rfl)) (by unfold Func.isWrapper; first | (rw [if_pos (by decide +kernel)]; kernel_rfl) | (rw [if_neg (by decide +kernel)]; exact ⟨rfl, rfl⟩))
    (fun os started H enc _ => matOwn_lifted os started H enc)

theorem matOwn_holds : Rows.MatOwnSaid := matOwn_over
end Go.Proofs.Ytlmoaompmiobjaa
