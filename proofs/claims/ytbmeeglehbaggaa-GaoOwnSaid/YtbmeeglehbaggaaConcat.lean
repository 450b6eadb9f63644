import Derived.Test.YtbmeeglehbaggaaSl
import Derived.Lib.AppendZeros
namespace Go
open Go.RowKit
/-- 'append([]T(nil), make([]T, n)...)', n > 0. -/
theorem wpList_appz {P : Program} {w : World} {ops : Array Oper} {rest : List Oper} {o : Oper} {a : Act} {Q : Exit → Act → World → Prop}
    (hg : o.guard = none) (s x : Operand) (t tn : TypeId) (hop : o.op = Op.call { callee := Callee.builtin Builtin.append, args := #[s, x], argTypes := #[t, tn] })
    {e : TypeId} {z : Value} {size bytes : Nat} {k kn : IntKind} (h1 : P.underlying t = some (.slice e)) (htn : P.underlying tn = some (.int kn)) (hinfo : (P.info? e).map (fun i => (i.zero, i.size, i.bytes)) = some (some z, size, bytes)) (h6 : z.cells.size = size) (h7 : 0 < size)
    (hs : a.eval s = .slice none 0 0) {n : Nat} (hx : a.eval x = .int k (n : Int)) (h0 : 0 < n) (hb : n * bytes ≤ 281474976710656) (hm : n ≤ 9223372036854775807)
    (hK : ∀ c' w', n ≤ c' → Ownd w'.heap e size (some ⟨w.heap.size, 0, none⟩) 0 c' [] (some w.heap.size) → Fr (fun _ => False) w w' → wpList P ops Q rest (a.put o.dst (.slice (some ⟨w.heap.size, 0, none⟩) n c')) w') :
    wpList P ops Q (o :: rest) a w := by
  obtain ⟨i, h2, h3, h4, h5⟩ := info_parts hinfo
  subst h4
  subst h5
  refine wpList_plain hg fun K hK' => ?_
  have hrun := Lib.run_append_nil_zeros (P := P) w t tn o.type e i z k kn h1 htn h2 h3 n h0 h7 (by omega) hb
  have hge := grownCap_ge w n 0 e
  have hmx := grownCap_le_maxLen w n 0 e (by unfold maxLen; omega)
  unfold Oper.wp
  simp [execOp, hop, resolve, invoke, builtin, hs, hx, hrun, Result.andThen]
  refine hK' _ _ (hK _ _ hge ⟨by simp, .inr ⟨w.heap.size, Builtin.zeroCells z.cells n ++ Builtin.zeroCells z.cells (grownCap w n 0 e - n), rfl, rfl, ?_, Nat.zero_le _, hmx, ?_, by simp⟩⟩ ((Fr.refl _ w).drew.alloc _))
  · exact heap_alloc_new w.drew _
  · have hz : ∀ m, (Builtin.zeroCells z.cells m).size = m * i.size := fun m => by rw [← h6]; simp [Builtin.zeroCells]
    rw [Array.size_append, hz, hz, ← Nat.add_mul]
    congr 1
    omega
end Go
namespace Go.Proofs.Ytbmeeglehbaggaa
open Go.RowKit

set_option maxRecDepth 100000 in
set_option maxHeartbeats 1000000 in
theorem grow_any (n : Nat) (w : World) (hn : n ≤ 4096) : Calls Try.prog 90 #[.slice none 0 0, .int .i64 n] w (RetNew w 3 1 0 [] id) := by
  go_enter Try.func90, Try.ntmps90
  by_cases h0 : n = 0
  · subst h0
    go_wp2
    go_ret
    exact ⟨none, 0, none, rfl, Ownd.nil _ _ _, Fr.refl _ _, fun g h => nomatch h⟩
  · go_wp2_with (at_builtin; refine wpList_appz rfl _ _ 22 3 rfl Try.underlying22 Try.underlying3 infoInt rfl (by decide) rfl rfl (by omega) (by omega) (by omega) ?_)
    intro c' w' h1 h2 h3
    go_wp2
    go_ret
    exact ⟨_, c', _, rfl, h2, h3, fun g h => by cases h; exact Nat.le_refl _⟩

/-- The loop's guard against a length that outgrew an int does not strike: few rows, none long. -/
def lens : List (List Int) → Nat
  | [] => 0
  | r :: rs => r.length + lens rs
theorem lens_drop (rs : List (List Int)) (k : Nat) (h : k < rs.length) : lens (rs.drop k) = (nth rs k).length + lens (rs.drop (k + 1)) := by rw [drop_nth rs k h]; rfl

theorem lens_take (rs : List (List Int)) (k : Nat) : (rs.take k).flatten.length + lens (rs.drop k) = lens rs := by
  induction rs generalizing k with
  | nil => simp [lens]
  | cons r rs ih =>
    cases k with
    | zero => simp
    | succ k => have := ih k; simp only [List.take_succ_cons, List.flatten_cons, List.length_append, List.drop_succ_cons, lens] at *; omega

set_option maxRecDepth 100000 in
set_option maxHeartbeats 1000000 in
theorem concat_any (rs : List (List Int)) (a : Option Addr) (c : Nat) (A : Nat → Option Addr) (C : Nat → Nat) (w : World) (hM : Mat w.heap a rs A C) (hn : lens rs ≤ 4096) (hl : rs.length ≤ 4096) :
    Calls Try.prog 74 #[.slice a rs.length c] w (RetNew w 3 1 rs.flatten.length (ivals .i64 rs.flatten) id) := by
  go_enter Try.func74, Try.ntmps74
  go_wp2
  go_loop [11, 3] (fun s11 s3 => ∃ k m : Nat, k ≤ rs.length ∧ s11 = .int .i64 k ∧ s3 = .int .i64 m ∧ m + lens (rs.drop k) = lens rs) (fun s _ => rs.length - (intOf s).toNat)
  case atStart => exact ⟨0, 0, by omega, rfl, rfl, by simp⟩
  case round =>
    obtain ⟨k, m, hk, rfl, rfl, hm⟩ := hrel
    by_cases hlt : k < rs.length
    · obtain ⟨b, off, rfl, hb, hc⟩ := hM.pos (by omega)
      have hck := hc w rfl k hlt
      have hd := lens_drop rs k hlt
      clear hc
      go_wp2
      go_round
      case rel => exact ⟨k + 1, m + (nth rs k).length, by omega, by go_num, by go_num, by omega⟩
      case measure => simp [intOf]; omega
    · obtain rfl : k = rs.length := by omega
      have hm' : m ≤ 4096 := by omega
      clear hm
      go_wp2_with (go_at_call 90; refine (grow_any m _ hm').mono ?_)
      intro e1 w1 R1
      obtain ⟨a1, c1, ob1, rfl, hO1, hF1, hN1⟩ := R1
      go_wp2
      go_loopw [27, 6] (fun s27 s6 wr => ∃ (k : Nat) (a' : Option Addr) (c' : Nat) (ob' : Option Nat), k ≤ rs.length ∧ s27 = .int .i64 k ∧ s6 = .slice a' ((rs.take k).flatten.length) c' ∧ Ownd wr.heap 3 1 a' (rs.take k).flatten.length c' (ivals .i64 (rs.take k).flatten) ob' ∧ Fr (fun _ => False) w wr ∧ (∀ g, ob' = some g → w.heap.size ≤ g)) (fun s _ _ => rs.length - (intOf s).toNat)
      case atStart => exact ⟨0, a1, c1, ob1, by omega, rfl, rfl, hO1, hF1, hN1⟩
      case round =>
        obtain ⟨k, a', c', ob', hk, rfl, rfl, hO, hF, hN⟩ := hrel
        by_cases hlt : k < rs.length
        · have hM' := hM.fr hF (fun _ _ h => h)
          have hrow := hM'.row k hlt
          have hck : ∃ b off, a = some ⟨b, off, none⟩ ∧ wr.cell? ⟨b, off + k, none⟩ = some (.slice (A k) (nth rs k).length (C k)) := by
            obtain ⟨b, off, h1, _, h2⟩ := hM'.pos (by omega)
            exact ⟨b, off, h1, h2 wr rfl k hlt⟩
          obtain ⟨b, off, rfl, hck⟩ := hck
          have h1 := lens_take rs k
          have h2 := lens_drop rs k hlt
          have hfl : (rs.take (k + 1)).flatten = (rs.take k).flatten ++ nth rs k := by rw [take_succ_nth rs k hlt]; simp
          have HFL := Lib.hid hfl
          clear hfl
          generalize hQ : (rs.take k).flatten = q at *
          go_wp2_with (at_builtin; refine wpList_app rfl _ _ 22 rfl Try.underlying22 infoInt rfl (by decide) rfl rfl hO hrow (ivals_one .i64 (nth rs k)) (by omega) (by omega) ?_)
          intro a2 c2 w2 ob2 z1 z2 z3
          have hz : Ownd w2.heap 3 1 a2 (q ++ nth rs k).length c2 (ivals .i64 (q ++ nth rs k)) ob2 := by simpa using z1
          have hF2 := Fr.app hF z2 hN
          have hN2 := app_new hN z3 hF.size
          have hql : (q ++ nth rs k).length = q.length + (nth rs k).length := by simp
          clear z1 z2 z3
          go_wp2
          go_roundw
          case rel => exact ⟨k + 1, a2, c2, ob2, by omega, by go_num, by rw [HFL.out, hql], by rw [HFL.out]; exact hz, hF2, hN2⟩
          case measure => simp [intOf]; omega
        · obtain rfl : k = rs.length := by omega
          rw [List.take_length] at *
          go_wp2
          go_ret
          exact ⟨a', c', ob', rfl, hO, hF, hN⟩
end Go.Proofs.Ytbmeeglehbaggaa
