import Derived.Test.YtfjempfffdeklaaDoorErr
namespace Go.Proofs.YtfjempfffdeklaaDoor
open Go.RowKit


/-- Where it stands first; -1: nowhere. -/
def IdxI (w : World) (l : List Int) (x : Int) (e : Ending) (w' : World) : Prop := ∃ i : Int, e = .returned (.int .i64 i) ∧ w' = w ∧ decide (i ≥ 0) = decide (x ∈ l) ∧ ((x ∈ l ∧ ∃ k : Nat, i = k ∧ k < l.length ∧ nth l k = x ∧ x ∉ l.take k) ∨ (x ∉ l ∧ i = -1))
set_option maxRecDepth 100000 in
set_option maxHeartbeats 1000000 in
theorem index_int {n : Nat} (l : List Int) (a : Option Addr) (c : Nat) (x : Int) (w : World) (hr : Ints w.heap a l) (hn : n = l.length) (hl : n ≤ 9223372036854775807) :
    Calls Tryd.prog 116 #[.slice a n c, .int .i64 x] w (IdxI w l x) := by
  subst hn
  go_enter Tryd.func116, Tryd.ntmps116
  go_wp2
  go_loopw [8] (fun s8 wr => ∃ k : Nat, k ≤ l.length ∧ s8 = .int .i64 k ∧ wr = w ∧ Hid (x ∉ l.take k)) (fun s _ => l.length - (intOf s).toNat)
  case atStart => exact ⟨0, by omega, rfl, rfl, Lib.hid (by simp)⟩
  case round =>
    obtain ⟨k, hk, rfl, rfl, hno⟩ := hrel
    by_cases hkl : k < l.length
    · obtain ⟨b, off, rfl, hb, hc⟩ := Ints.pos hr (by omega)
      have d := hc wr rfl k hkl
      have htk := take_succ_nth l k hkl
      have hdr := drop_nth l k hkl
      obtain ⟨y, hy⟩ : ∃ y, y = nth l k := ⟨_, rfl⟩
      rw [← hy] at d htk hdr
      clear hc
      by_cases hxy : x = y
      · have hX : Hid (x ∈ l ∧ nth l k = x) := Lib.hid ⟨by rw [← List.take_append_drop k l, hdr, hxy]; simp, by rw [hxy]; exact hy.symm⟩
        have e1 : (x == y) = true := by simpa using hxy
        clear hxy htk hdr hy
        go_wp2
        go_ret
        exact ⟨k, rfl, rfl, by simp [hX.out.1], .inl ⟨hX.out.1, k, rfl, hkl, hX.out.2, hno.out⟩⟩
      · have e1 : (x == y) = false := by simpa using hxy
        have hno' : Hid (x ∉ l.take (k + 1)) := Lib.hid (by
          rw [htk, List.mem_append]
          rintro (h | h)
          · exact hno.out h
          · exact hxy (by simpa using h))
        clear hxy htk hdr hy
        go_wp2
        go_roundw
        case rel => exact ⟨k + 1, by omega, by go_num, by first | trivial | rfl, hno'⟩
        case measure => simp [intOf]; omega
    · obtain rfl : k = l.length := by omega
      have hX : Hid (x ∉ l) := Lib.hid (by
        have := hno.out
        rwa [List.take_length] at this)
      go_wp2
      go_ret
      exact ⟨-1, rfl, rfl, by simp [hX.out], .inr ⟨hX.out, rfl⟩⟩


set_option maxRecDepth 100000 in
set_option maxHeartbeats 1000000 in
theorem contains_int {n : Nat} (l : List Int) (a : Option Addr) (c : Nat) (x : Int) (w : World) (hr : Ints w.heap a l) (hn : n = l.length) (hl : n ≤ 9223372036854775807) :
    Calls Tryd.prog 72 #[.slice a n c, .int .i64 x] w (fun e w' => e = .returned (.bool (decide (x ∈ l))) ∧ w' = w) := by
  subst hn
  obtain ⟨B, hB⟩ : ∃ B, B = decide (x ∈ l) := ⟨_, rfl⟩
  rw [← hB]
  have HB := Lib.hid hB
  clear hB
  go_enter Tryd.func72, Tryd.ntmps72
  go_wp2_with (fail)
  refine (index_int l a c x w hr rfl hl).mono ?_
  rintro e1 w1 ⟨i, rfl, rfl, hi, -⟩
  have HI := Lib.hid (HB.out.trans hi.symm)
  clear hi
  go_wp2
  go_ret
  exact ⟨by rw [HI.out]; rfl, rfl⟩


set_option maxRecDepth 100000 in
set_option maxHeartbeats 1000000 in
theorem in2_any {n : Nat} (l : List Int) (a : Option Addr) (c : Nat) (x : Int) (w : World) (hr : Ints w.heap a l) (hn : n = l.length) (hl : n ≤ 9223372036854775807) :
    Calls Tryd.prog 70 #[.slice a n c, .int .i64 x] w (fun e w' => e = .returned (.bool (decide (x ∈ l))) ∧ w' = w) := by
  subst hn
  go_enter Tryd.func70, Tryd.ntmps70
  go_wp2
  go_loopw [5] (fun s5 wr => ∃ k : Nat, k ≤ l.length ∧ s5 = .int .i64 k ∧ wr = w ∧ Hid (x ∉ l.take k)) (fun s _ => l.length - (intOf s).toNat)
  case atStart => exact ⟨0, by omega, rfl, rfl, Lib.hid (by simp)⟩
  case round =>
    obtain ⟨k, hk, rfl, rfl, hno⟩ := hrel
    by_cases hkl : k < l.length
    · obtain ⟨b, off, rfl, hb, hc⟩ := Ints.pos hr (by omega)
      have d := hc wr rfl k hkl
      have htk := take_succ_nth l k hkl
      have hdr := drop_nth l k hkl
      generalize nth l k = y at *
      clear hc
      by_cases hxy : y = x
      · have hX : Hid (decide (x ∈ l) = true) := Lib.hid (by
          have hm : x ∈ l := by rw [← List.take_append_drop k l, hdr, hxy]; simp
          simpa using hm)
        have e1 : (y == x) = true := by simpa using hxy
        clear hxy htk hdr
        go_wp2
        go_ret
        exact ⟨by rw [hX.out]; rfl, rfl⟩
      · have e1 : (y == x) = false := by simpa using hxy
        have hno' : Hid (x ∉ l.take (k + 1)) := Lib.hid (by
          rw [htk, List.mem_append]
          rintro (h | h)
          · exact hno.out h
          · exact hxy (Eq.symm (by simpa using h)))
        clear hxy htk hdr
        go_wp2
        go_roundw
        case rel => exact ⟨k + 1, by omega, by go_num, by first | trivial | rfl, hno'⟩
        case measure => simp [intOf]; omega
    · obtain rfl : k = l.length := by omega
      have hX : Hid (decide (x ∈ l) = false) := Lib.hid (by
        have := hno.out
        rw [List.take_length] at this
        simpa using this)
      go_wp2
      go_ret
      rw [hX.out]
      exact ⟨rfl, rfl⟩

end Go.Proofs.YtfjempfffdeklaaDoor
