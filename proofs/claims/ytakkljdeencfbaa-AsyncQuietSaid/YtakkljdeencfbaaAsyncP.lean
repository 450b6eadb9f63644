import Derived.Test.YtakkljdeencfbaaAsyncN
namespace Go.Proofs.Ytakkljdeencfbaa
open Go.RowKit

def AL.pushW (L : AL) (i g cr : Nat) (a' : Option Addr) (c' : Nat) (ob' : Option Nat) : AL :=
  { L with wta := a', wc := c', wtb := ob', wr := ANet.upd L.wr i g, wcr := ANet.upd L.wcr i cr, qa := ANet.upd L.qa i (fun _ => none), qc := ANet.upd L.qc i (fun _ => 0), qb := ANet.upd L.qb i (fun _ => none), role := fun x => if x = g then 20 + i else if ob' = some x then 3 else L.role x }
def AL.pushH (L : AL) (i g cr : Nat) (a' : Option Addr) (c' : Nat) (ob' : Option Nat) : AL :=
  { L with hta := a', hc := c', htb := ob', hr := ANet.upd L.hr i g, hcr := ANet.upd L.hcr i cr, role := fun x => if x = g then 40 + i else if ob' = some x then 4 else L.role x }
namespace ANet
variable {base sb n i nw nh : Nat} {to : Int} {C hd : Nat → List Int} {f : List Int} {q : Nat → Nat → List Int} {L : AL} {w w' : World}

theorem pushW (h : ANet w.heap base sb n i nh to C hd f q L) (hi : i < n) (F : Fr (fun x => L.wtb = some x) w w') {g cr : Nat}
    (hrow : Own w'.heap 23 1 (some ⟨g, 0, none⟩) n cr (List.replicate n (.slice none 0 0)) (some g)) (hg : w.heap.size ≤ g) {a' : Option Addr} {c' : Nat} {ob' : Option Nat}
    (hT : Own w'.heap 64 1 a' (i + 1) c' ((List.range i).map (fun j => .slice (some ⟨L.wr j, 0, none⟩) n (L.wcr j)) ++ [.slice (some ⟨g, 0, none⟩) n cr]) ob')
    (hob : ob' = L.wtb ∨ ∀ x, ob' = some x → w.heap.size ≤ x ∧ x ≠ g) (hbase : base ≤ w.heap.size) :
    ANet (w'.setCell ⟨sb, 2, none⟩ (.slice a' (i + 1) c')).heap base sb n (i + 1) nh to C hd f (upd q i (fun _ => [])) (L.pushW i g cr a' c' ob') := by
  have hn := h.n8
  have hnh := h.nhs
  have hold : ∀ x r, x < w.heap.size → L.role x = r → (L.pushW i g cr a' c' ob').role x = r := fun x r hx hr => by
    show (if x = g then _ else if ob' = some x then _ else _) = _
    rw [if_neg (by omega)]
    split
    · rename_i h1
      rcases hob with h2 | h2
      · rw [← hr, h.rwt x (h2 ▸ h1)]
      · have := (h2 x h1).1; omega
    · exact hr
  have hS : ∀ x r, L.role x = r → r ≠ 3 → ¬ (L.wtb = some x) := fun x r h1 h2 h3 => h2 (by rw [← h1, h.rwt x h3])
  have hne : ∀ x r, L.role x = r → r ≠ 1 → x ≠ sb := fun x r h1 h2 e => h2 (by rw [← h1, e, h.rs])
  have hsb := h.sB.lt
  have hobsb : ob' ≠ some sb := fun e => by
    rcases hob with h2 | h2
    · have h3 := h.rwt sb (h2 ▸ e); rw [h.rs] at h3; omega
    · have := (h2 sb e).1; omega
  refine ⟨?_, ?_, ?_, ?_, ?_, ?_, ?_, ?_, ?_, ?_, ?_, ?_, ?_, ?_, ?_, ?_, ?_, ?_, ?_, ?_, h.n8, hi, h.nhs⟩
  · exact (h.sB.fr F (hS _ _ h.rs (by omega))).set 2 _
  · exact (h.cT.fr F (fun x hx => hS _ _ (h.rct x hx) (by omega))).other (p := ⟨sb, 2, none⟩) (fun e => hne _ _ (h.rct _ e) (by omega) rfl) _
  · intro j hj
    exact ((h.cR j hj).fr F (fun x hx => by cases hx; exact hS _ _ (h.rcr j hj) (by omega))).other (p := ⟨sb, 2, none⟩) (fun e => hne _ _ (h.rcr j hj) (by omega) (Option.some.inj e)) _
  · have e : (List.range i).map (fun j => Value.slice (some ⟨L.wr j, 0, none⟩) n (L.wcr j)) ++ [.slice (some ⟨g, 0, none⟩) n cr] = (List.range (i + 1)).map fun j => Value.slice (some ⟨(L.pushW i g cr a' c' ob').wr j, 0, none⟩) n ((L.pushW i g cr a' c' ob').wcr j) := by
      rw [List.range_succ, List.map_append]
      congr 1
      · refine List.map_congr_left fun j hj => ?_
        have hj' := List.mem_range.1 hj
        simp only [AL.pushW]
        rw [upd_other _ _ (by omega), upd_other _ _ (by omega)]
      · simp only [AL.pushW, List.map_cons, List.map_nil, upd_same]
    rw [e] at hT
    exact hT.other (p := ⟨sb, 2, none⟩) hobsb _
  · intro j hj
    by_cases hji : j = i
    · subst hji
      simp only [AL.pushW]
      rw [upd_same, upd_same, upd_same, upd_same, upd_same]
      have e : (List.range n).map (fun _ => Value.slice none ([] : List Int).length 0) = List.replicate n (.slice none 0 0) := by
        apply List.ext_getElem <;> simp
      rw [e]
      exact hrow.other (p := ⟨sb, 2, none⟩) (fun e => by have := Option.some.inj e; simp only at this; omega) _
    · simp only [AL.pushW]
      rw [upd_other _ _ hji, upd_other _ _ hji, upd_other _ _ hji, upd_other _ _ hji, upd_other _ _ hji]
      have hj' : j < i := by omega
      exact ((h.wR j hj').fr F (fun x hx => by cases hx; exact hS _ _ (h.rwr j hj') (by omega))).other (p := ⟨sb, 2, none⟩) (fun e => hne _ _ (h.rwr j hj') (by omega) (Option.some.inj e)) _
  · intro j k hj hk
    by_cases hji : j = i
    · subst hji
      simp only [AL.pushW]
      rw [upd_same, upd_same, upd_same, upd_same]
      exact Own.nil _ _ _
    · simp only [AL.pushW]
      rw [upd_other _ _ hji, upd_other _ _ hji, upd_other _ _ hji, upd_other _ _ hji]
      have hj' : j < i := by omega
      exact ((h.qO j k hj' hk).fr F (fun x hx => hS _ _ (h.rq j k x hj' hk hx) (by omega))).other (p := ⟨sb, 2, none⟩) (fun e => hne _ _ (h.rq j k _ hj' hk e) (by omega) rfl) _
  · exact (h.hT.fr F (fun x hx => hS _ _ (h.rht x hx) (by omega))).other (p := ⟨sb, 2, none⟩) (fun e => hne _ _ (h.rht _ e) (by omega) rfl) _
  · intro j hj
    exact ((h.hR j hj).fr F (fun x hx => by cases hx; exact hS _ _ (h.rhr j hj) (by omega))).other (p := ⟨sb, 2, none⟩) (fun e => hne _ _ (h.rhr j hj) (by omega) (Option.some.inj e)) _
  · exact (h.fO.fr F (fun x hx => by cases hx; exact hS _ _ h.rf (by omega))).other (p := ⟨sb, 2, none⟩) (fun e => hne _ _ h.rf (by omega) (Option.some.inj e)) _
  · intro j k hj hk
    by_cases hji : j = i
    · subst hji
      rw [upd_same]
      simp
    · rw [upd_other _ _ hji]
      exact h.q20 j k (by omega) hk
  · intro x hx
    change (if x = g then _ else if ob' = some x then _ else _) ≠ 0 at hx
    split at hx
    · omega
    · split at hx
      · rename_i h1
        rcases hob with h2 | h2
        · exact h.lo x (by rw [h.rwt x (h2 ▸ h1)]; omega)
        · exact Nat.le_trans hbase (h2 x h1).1
      · exact h.lo x hx
  · exact hold _ _ hsb h.rs
  · exact fun x hx => hold _ _ (h.cT.lt x hx) (h.rct x hx)
  · intro x hx
    change ob' = some x at hx
    rcases hob with h2 | h2
    · exact hold _ _ (h.wT.lt x (h2 ▸ hx)) (h.rwt x (h2 ▸ hx))
    · show (if x = g then _ else if ob' = some x then _ else _) = _
      rw [if_neg (h2 x hx).2, if_pos hx]
  · exact fun x hx => hold _ _ (h.hT.lt x hx) (h.rht x hx)
  · exact hold _ _ (h.fO.lt _ rfl) h.rf
  · exact fun j hj => hold _ _ ((h.cR j hj).lt _ rfl) (h.rcr j hj)
  · intro j hj
    by_cases hji : j = i
    · subst hji
      show (L.pushW j g cr a' c' ob').role (upd L.wr j g j) = _
      rw [upd_same]
      exact if_pos rfl
    · show (L.pushW i g cr a' c' ob').role (upd L.wr i g j) = _
      rw [upd_other _ _ hji]
      exact hold _ _ ((h.wR j (by omega)).lt _ rfl) (h.rwr j (by omega))
  · exact fun j hj => hold _ _ ((h.hR j hj).lt _ rfl) (h.rhr j hj)
  · intro j k x hj hk hx
    simp only [AL.pushW] at hx
    by_cases hji : j = i
    · subst hji
      rw [upd_same] at hx
      cases hx
    · rw [upd_other _ _ hji] at hx
      exact hold _ _ ((h.qO j k (by omega) hk).lt x hx) (h.rq j k x (by omega) hk hx)

theorem pushH (h : ANet w.heap base sb n nw i to C hd f q L) (hi : i < n) (F : Fr (fun x => L.htb = some x) w w') {g cr : Nat} {r : List Int}
    (hrow : Own w'.heap 3 1 (some ⟨g, 0, none⟩) n cr (ivals .i64 r) (some g)) (hg : w.heap.size ≤ g) {a' : Option Addr} {c' : Nat} {ob' : Option Nat}
    (hT : Own w'.heap 23 1 a' (i + 1) c' ((List.range i).map (fun j => .slice (some ⟨L.hr j, 0, none⟩) n (L.hcr j)) ++ [.slice (some ⟨g, 0, none⟩) n cr]) ob')
    (hob : ob' = L.htb ∨ ∀ x, ob' = some x → w.heap.size ≤ x ∧ x ≠ g) (hbase : base ≤ w.heap.size) :
    ANet (w'.setCell ⟨sb, 3, none⟩ (.slice a' (i + 1) c')).heap base sb n nw (i + 1) to C (upd hd i r) f q (L.pushH i g cr a' c' ob') := by
  have hn := h.n8
  have hnw := h.nws
  have hold : ∀ x r, x < w.heap.size → L.role x = r → (L.pushH i g cr a' c' ob').role x = r := fun x r hx hr => by
    show (if x = g then _ else if ob' = some x then _ else _) = _
    rw [if_neg (by omega)]
    split
    · rename_i h1
      rcases hob with h2 | h2
      · rw [← hr, h.rht x (h2 ▸ h1)]
      · have := (h2 x h1).1; omega
    · exact hr
  have hS : ∀ x r, L.role x = r → r ≠ 4 → ¬ (L.htb = some x) := fun x r h1 h2 h3 => h2 (by rw [← h1, h.rht x h3])
  have hne : ∀ x r, L.role x = r → r ≠ 1 → x ≠ sb := fun x r h1 h2 e => h2 (by rw [← h1, e, h.rs])
  have hsb := h.sB.lt
  have hobsb : ob' ≠ some sb := fun e => by
    rcases hob with h2 | h2
    · have h3 := h.rht sb (h2 ▸ e); rw [h.rs] at h3; omega
    · have := (h2 sb e).1; omega
  refine ⟨?_, ?_, ?_, ?_, ?_, ?_, ?_, ?_, ?_, ?_, ?_, ?_, ?_, ?_, ?_, ?_, ?_, ?_, ?_, ?_, h.n8, h.nws, hi⟩
  · exact (h.sB.fr F (hS _ _ h.rs (by omega))).set 3 _
  · exact (h.cT.fr F (fun x hx => hS _ _ (h.rct x hx) (by omega))).other (p := ⟨sb, 3, none⟩) (fun e => hne _ _ (h.rct _ e) (by omega) rfl) _
  · intro j hj
    exact ((h.cR j hj).fr F (fun x hx => by cases hx; exact hS _ _ (h.rcr j hj) (by omega))).other (p := ⟨sb, 3, none⟩) (fun e => hne _ _ (h.rcr j hj) (by omega) (Option.some.inj e)) _
  · exact (h.wT.fr F (fun x hx => hS _ _ (h.rwt x hx) (by omega))).other (p := ⟨sb, 3, none⟩) (fun e => hne _ _ (h.rwt _ e) (by omega) rfl) _
  · intro j hj
    exact ((h.wR j hj).fr F (fun x hx => by cases hx; exact hS _ _ (h.rwr j hj) (by omega))).other (p := ⟨sb, 3, none⟩) (fun e => hne _ _ (h.rwr j hj) (by omega) (Option.some.inj e)) _
  · intro j k hj hk
    exact ((h.qO j k hj hk).fr F (fun x hx => hS _ _ (h.rq j k x hj hk hx) (by omega))).other (p := ⟨sb, 3, none⟩) (fun e => hne _ _ (h.rq j k _ hj hk e) (by omega) rfl) _
  · have e : (List.range i).map (fun j => Value.slice (some ⟨L.hr j, 0, none⟩) n (L.hcr j)) ++ [.slice (some ⟨g, 0, none⟩) n cr] = (List.range (i + 1)).map fun j => Value.slice (some ⟨(L.pushH i g cr a' c' ob').hr j, 0, none⟩) n ((L.pushH i g cr a' c' ob').hcr j) := by
      rw [List.range_succ, List.map_append]
      congr 1
      · refine List.map_congr_left fun j hj => ?_
        have hj' := List.mem_range.1 hj
        simp only [AL.pushH]
        rw [upd_other _ _ (by omega), upd_other _ _ (by omega)]
      · simp only [AL.pushH, List.map_cons, List.map_nil, upd_same]
    rw [e] at hT
    exact hT.other (p := ⟨sb, 3, none⟩) hobsb _
  · intro j hj
    by_cases hji : j = i
    · subst hji
      simp only [AL.pushH]
      rw [upd_same, upd_same, upd_same]
      exact hrow.other (p := ⟨sb, 3, none⟩) (fun e => by have := Option.some.inj e; simp only at this; omega) _
    · simp only [AL.pushH]
      rw [upd_other _ _ hji, upd_other _ _ hji, upd_other _ _ hji]
      have hj' : j < i := by omega
      exact ((h.hR j hj').fr F (fun x hx => by cases hx; exact hS _ _ (h.rhr j hj') (by omega))).other (p := ⟨sb, 3, none⟩) (fun e => hne _ _ (h.rhr j hj') (by omega) (Option.some.inj e)) _
  · exact (h.fO.fr F (fun x hx => by cases hx; exact hS _ _ h.rf (by omega))).other (p := ⟨sb, 3, none⟩) (fun e => hne _ _ h.rf (by omega) (Option.some.inj e)) _
  · exact h.q20
  · intro x hx
    change (if x = g then _ else if ob' = some x then _ else _) ≠ 0 at hx
    split at hx
    · omega
    · split at hx
      · rename_i h1
        rcases hob with h2 | h2
        · exact h.lo x (by rw [h.rht x (h2 ▸ h1)]; omega)
        · exact Nat.le_trans hbase (h2 x h1).1
      · exact h.lo x hx
  · exact hold _ _ hsb h.rs
  · exact fun x hx => hold _ _ (h.cT.lt x hx) (h.rct x hx)
  · exact fun x hx => hold _ _ (h.wT.lt x hx) (h.rwt x hx)
  · intro x hx
    change ob' = some x at hx
    rcases hob with h2 | h2
    · exact hold _ _ (h.hT.lt x (h2 ▸ hx)) (h.rht x (h2 ▸ hx))
    · show (if x = g then _ else if ob' = some x then _ else _) = _
      rw [if_neg (h2 x hx).2, if_pos hx]
  · exact hold _ _ (h.fO.lt _ rfl) h.rf
  · exact fun j hj => hold _ _ ((h.cR j hj).lt _ rfl) (h.rcr j hj)
  · exact fun j hj => hold _ _ ((h.wR j hj).lt _ rfl) (h.rwr j hj)
  · intro j hj
    by_cases hji : j = i
    · subst hji
      show (L.pushH j g cr a' c' ob').role (upd L.hr j g j) = _
      rw [upd_same]
      exact if_pos rfl
    · show (L.pushH i g cr a' c' ob').role (upd L.hr i g j) = _
      rw [upd_other _ _ hji]
      exact hold _ _ ((h.hR j (by omega)).lt _ rfl) (h.rhr j (by omega))
  · intro j k x hj hk hx
    exact hold _ _ ((h.qO j k hj hk).lt x hx) (h.rq j k x hj hk hx)
end ANet
end Go.Proofs.Ytakkljdeencfbaa
