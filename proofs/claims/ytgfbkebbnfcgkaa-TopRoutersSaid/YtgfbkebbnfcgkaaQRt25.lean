import Derived.Test.YtgfbkebbnfcgkaaQRt19
import Derived.Test.YtgfbkebbnfcgkaaQRt21
import Derived.Test.YtgfbkebbnfcgkaaQRt24
section
namespace Go
theorem lensub {l m : List Nt} (hn : l.Nodup) (hs : ∀ x ∈ l, x ∈ m) : l.length ≤ m.length := by
  induction l generalizing m with
  | nil => exact Nat.zero_le _
  | cons x l ih =>
    obtain ⟨h1, h2⟩ := List.nodup_cons.1 hn
    have hx := hs x (by simp)
    have := ih (m := m.erase x) h2 (fun y hy => (List.mem_erase_of_ne (fun e : y = x => h1 (by rw [← e]; exact hy))).2 (hs y (by simp [hy])))
    have hl := List.length_erase_of_mem hx
    have hp := List.length_pos_of_mem hx
    simp only [List.length_cons]
    omega
theorem nsx {l m : List Nt} (hl : NSorted l) (hm : NSorted m) (h : ∀ x, x ∈ l ↔ x ∈ m) : l = m := by
  induction l generalizing m with
  | nil =>
    cases m with
    | nil => rfl
    | cons y m => exact absurd ((h y).2 (by simp)) (by simp)
  | cons x l ih =>
    cases m with
    | nil => exact absurd ((h x).1 (by simp)) (by simp)
    | cons y m =>
      obtain ⟨h1, h2⟩ := List.pairwise_cons.1 hl
      obtain ⟨h3, h4⟩ := List.pairwise_cons.1 hm
      have hxy : x = y := by
        rcases List.mem_cons.1 ((h x).1 (by simp)) with e | e
        · exact e
        · rcases List.mem_cons.1 ((h y).2 (by simp)) with e2 | e2
          · exact e2.symm
          · exact absurd (h1 y e2) (ntLt_asymm (h3 x e))
      subst hxy
      congr 1
      refine ih h2 h4 (fun z => ?_)
      constructor
      · intro hz
        rcases List.mem_cons.1 ((h z).1 (by simp [hz])) with e | e
        · subst e; exact absurd (h1 z hz) (ntLt_irrefl z)
        · exact e
      · intro hz
        rcases List.mem_cons.1 ((h z).2 (by simp [hz])) with e | e
        · subst e; exact absurd (h3 z hz) (ntLt_irrefl z)
        · exact e
theorem nsn {l : List Nt} (h : NSorted l) : l.Nodup := List.Pairwise.imp (fun {a b} (hab : ntLt a b) (e : a = b) => ntLt_irrefl a (by rw [← e] at hab; exact hab)) h
end Go
namespace Go.Proofs.Ytgfbkebbnfcgkaa
open Go.RowKit
theorem TabR.own {D : DC} {l : List Td} {R : List BestR} (h : TabR D l R) {q : Nt} (hq : q ∈ D.own) : q ∈ R.map bnet := (h.mem q).2 ⟨.inl hq, by rw [bestD_own hq]; decide⟩
theorem TabR.ge {D : DC} {l : List Td} {R : List BestR} (h : TabR D l R) (hn : D.own.Nodup) : D.own.length ≤ R.length := by
  have := lensub hn (fun x hx => h.own hx)
  simpa using this
/-- Where all that was heard is that there is no way. -/
theorem bestM_16 {l : List Hea} {costs : List Int} (a n : Int) (h : ∀ x ∈ l, x.m = 16) (hc : ∀ c ∈ costs, 1 ≤ c ∧ c ≤ 16) : bestM l costs a n = (16, []) := by
  have hl : ∀ x ∈ l, 1 ≤ x.m ∧ x.m ≤ 16 := fun x hx => by rw [h x hx]; decide
  have h1 : ∀ f, lastOf l f a n = 16 := fun f => by
    unfold lastOf
    have : ∀ m, lastO l f a n = some m → m = 16 := fun m hm => by
      have key : ∀ l : List Hea, (∀ x ∈ l, x.m = 16) → ∀ m, lastO l f a n = some m → m = 16 := by
        intro l
        refine snocI (P := fun l => (∀ x ∈ l, x.m = 16) → ∀ m, lastO l f a n = some m → m = 16) (fun _ m hm => by cases hm) (fun l x ih hx m hm => ?_) l
        rw [lastO_snoc] at hm
        split at hm
        · cases hm; exact hx x (by simp)
        · exact ih (fun y hy => hx y (by simp [hy])) m hm
      exact key l h m hm
    cases ho : lastO l f a n with
    | none => rfl
    | some m => exact this m ho
  rw [bestM_eq a n hl hc]
  have h2 : ∀ k, k < costs.length → pOf l costs a n k = 16 := fun k hk => by
    unfold pOf plusM
    rw [h1]
    have := hc _ (nth_mem costs k hk)
    rw [if_neg (by omega)]
  have h3 : ∀ k, k ≤ costs.length → mK (pOf l costs a n) k = 16 := by
    intro k
    induction k with
    | zero => intro _; rfl
    | succ k ih =>
      intro hk
      unfold mK
      rw [ih (by omega), h2 k (by omega)]
      rfl
  rw [h3 _ (Nat.le_refl _), hopsK_16 _ (by decide)]
theorem hearM_0 {D : DC} {l : List Td} {bad : Int} {b : List Int} {f : Int} : (hearM D 0 l bad b f 0).now = 0 ∧ bad ≤ (hearM D 0 l bad b f 0).bad ∧ (hearM D 0 l bad b f 0).bad ≤ bad + 1 := by
  unfold hearM
  split
  · exact ⟨rfl, by simp only; omega, by simp only; omega⟩
  · split
    · exact ⟨rfl, by simp only; omega, by simp only; omega⟩
    · exact ⟨rfl, by simp only; omega, by simp only; omega⟩
    · exact ⟨rfl, by simp only; omega, by simp only; omega⟩
/-- A router's blocks are its own: what was there ahead of it stays. -/
theorem Fr.dm {w0 w w' : World} {D : DC} (h : Fr (fun _ => False) w0 w) (f : Fr (fun k => k = D.bd ∨ k = D.br) w w') (h1 : w0.heap.size ≤ D.bd) (h2 : w0.heap.size ≤ D.br) : Fr (fun _ => False) w0 w' := h.trans' f (fun k hk e => by omega)

end Go.Proofs.Ytgfbkebbnfcgkaa
end

section
namespace Go.Proofs.Ytgfbkebbnfcgkaa
open Go.RowKit

/-! What a rib's list says, when something is learnt. -/
theorem lastO_some {l : List Hea} {f a n m : Int} (h1 : ∀ x ∈ l, x.f = f ∧ x.a = a ∧ x.n = n → x.m = m) (h2 : ∃ x ∈ l, x.f = f ∧ x.a = a ∧ x.n = n) : lastO l f a n = some m := by
  revert h1 h2
  refine snocI (P := fun l => (∀ x ∈ l, x.f = f ∧ x.a = a ∧ x.n = n → x.m = m) → (∃ x ∈ l, x.f = f ∧ x.a = a ∧ x.n = n) → lastO l f a n = some m) (fun _ h => by obtain ⟨_, h, _⟩ := h; cases h) (fun l x ih h1 h2 => ?_) l
  rw [lastO_snoc]
  by_cases hx : x.f = f ∧ x.a = a ∧ x.n = n
  · rw [if_pos hx, h1 x (by simp) hx]
  · rw [if_neg hx]
    refine ih (fun y hy => h1 y (by simp [hy])) ?_
    obtain ⟨y, hy, hk⟩ := h2
    rcases List.mem_append.1 hy with hy | hy
    · exact ⟨y, hy, hk⟩
    · rw [List.mem_singleton.1 hy] at hk; exact absurd hk hx
theorem lastO_none {l : List Hea} {f a n : Int} (h : ∀ x ∈ l, ¬ (x.f = f ∧ x.a = a ∧ x.n = n)) : lastO l f a n = none := by
  revert h
  refine snocI (P := fun l => (∀ x ∈ l, ¬ (x.f = f ∧ x.a = a ∧ x.n = n)) → lastO l f a n = none) (fun _ => rfl) (fun l x ih h => ?_) l
  rw [lastO_snoc, if_neg (h x (by simp))]
  exact ih (fun y hy => h y (by simp [hy]))
theorem rib_uniq : ∀ {l : List Td}, l.Pairwise ltd → ∀ x ∈ l, ∀ y ∈ l, x.f = y.f → x.a = y.a → x.n = y.n → x = y := by
  have hno : ∀ x y : Td, ltd x y → ¬ (x.f = y.f ∧ x.a = y.a ∧ x.n = y.n) := fun x y h hk => by
    unfold ltd tdAhead netLess at h
    omega
  intro l
  induction l with
  | nil => intro _ x hx; cases hx
  | cons z l ih =>
    intro h x hx y hy e1 e2 e3
    obtain ⟨h1, h2⟩ := List.pairwise_cons.1 h
    rcases List.mem_cons.1 hx with g1 | g1
    · rcases List.mem_cons.1 hy with g2 | g2
      · rw [g1, g2]
      · rw [← g1] at h1; exact absurd ⟨e1, e2, e3⟩ (hno _ _ (h1 y g2))
    · rcases List.mem_cons.1 hy with g2 | g2
      · rw [← g2] at h1; exact absurd ⟨e1.symm, e2.symm, e3.symm⟩ (hno _ _ (h1 x g1))
      · exact ih h2 x g1 y g2 e1 e2 e3
theorem lastOf_of {now : Int} {l : List Td} (h : RibOk now l) {x : Td} (hx : x ∈ l) : lastOf (hdL l) x.f x.a x.n = x.m := by
  have e : lastO (hdL l) x.f x.a x.n = some x.m := lastO_some (fun z hz hk => by
    obtain ⟨y, hy, rfl⟩ := List.mem_map.1 hz
    rw [rib_uniq h.ord y hy x hx hk.1 hk.2.1 hk.2.2]
    rfl) ⟨Td.hd x, List.mem_map.2 ⟨x, hx, rfl⟩, rfl, rfl, rfl⟩
  unfold lastOf
  rw [e]
  rfl
theorem lastOf_no {l : List Td} {f a n : Int} (h : ∀ x ∈ l, ¬ (x.f = f ∧ x.a = a ∧ x.n = n)) : lastOf (hdL l) f a n = 16 := by
  unfold lastOf
  rw [lastO_none (fun z hz => by obtain ⟨y, hy, rfl⟩ := List.mem_map.1 hz; exact h y hy)]
  rfl
theorem rIs_mem {now : Int} {l : List Td} (h : RibOk now l) {x : Td} (hx : x ∈ l) : rIs l x.f x.a x.n := by
  have key : ∀ (l : List Td), l.Pairwise ltd → ∀ k, k < l.length → ∀ j, j < k → ltd (nth l j) (nth l k) := by
    intro l
    induction l with
    | nil => intro _ k hk; simp at hk
    | cons z l ih =>
      intro h k hk j hj
      obtain ⟨h1, h2⟩ := List.pairwise_cons.1 h
      cases k with
      | zero => omega
      | succ k =>
        rw [nth_cons_succ]
        cases j with
        | zero => exact h1 _ (nth_mem l k (by simpa using hk))
        | succ j => rw [nth_cons_succ]; exact ih h2 k (by simpa using hk) j (by omega)
  have mem_at : ∀ (l : List Td), x ∈ l → ∃ i, i < l.length ∧ nth l i = x := by
    intro l
    induction l with
    | nil => intro h; cases h
    | cons y l ih =>
      intro h
      rcases List.mem_cons.1 h with rfl | h
      · exact ⟨0, by simp, rfl⟩
      · obtain ⟨i, h1, h2⟩ := ih h
        exact ⟨i + 1, by simpa using h1, h2⟩
  obtain ⟨k, hk, he⟩ := mem_at l hx
  have hi : rIdx l x.f x.a x.n = k := rIdx_unique l x.f x.a x.n k (by omega) (fun j hj => by
    have := key l h.ord k hk j hj
    rw [he] at this
    exact this) (fun _ => by rw [he]; unfold tdAhead netLess; omega)
  refine ⟨by rw [hi]; exact hk, ?_⟩
  rw [hi, he]
  exact ⟨rfl, rfl, rfl⟩
theorem mem_set_new {α : Type} {l : List α} {i : Nat} (y : α) (h : i < l.length) : y ∈ l.set i y := by
  induction l generalizing i with
  | nil => simp at h
  | cons z l ih =>
    cases i with
    | zero => simp
    | succ i => rw [List.set_cons_succ]; exact List.mem_cons_of_mem _ (ih (by simpa using h))
theorem mem_set_of {α : Type} {l : List α} {i : Nat} {x y : α} (h : x ∈ l) : x ∈ l.set i y ∨ (∃ h : i < l.length, l[i] = x) := by
  induction l generalizing i with
  | nil => cases h
  | cons z l ih =>
    cases i with
    | zero =>
      rcases List.mem_cons.1 h with rfl | h
      · exact .inr ⟨by simp, rfl⟩
      · exact .inl (by simp [h])
    | succ i =>
      rcases List.mem_cons.1 h with rfl | h
      · exact .inl (by simp)
      · rcases ih (i := i) h with h1 | ⟨h1, h2⟩
        · exact .inl (by simp [h1])
        · exact .inr ⟨by simpa using h1, by simpa using h2⟩
/-- Behind learning one thing. -/
theorem learn_last {now0 now f a n m : Int} {l l' : List Td} (h : RibOk now0 l) (ha : 0 ≤ a ∧ a < 4294967296) (hp : learnE now0 l f a n m now = .ok l') (k a' n' : Int) :
    lastOf (hdL l') k a' n' = if k = f ∧ a' = a ∧ n' = n then m else lastOf (hdL (rAged now l)) k a' n' := by
  obtain ⟨q1, q2, q3, q4, q5, q6, q7, q8, q9⟩ := learn_ok h ha hp
  have hA : RibOk now (rAged now l) := rAged_ok h q2 q3
  obtain ⟨A, hAe⟩ : ∃ A, A = rAged now l := ⟨_, rfl⟩
  rw [← hAe] at q9 hA ⊢
  have core : (⟨f, a, n, m, now⟩ : Td) ∈ l' → (∀ x ∈ l', x = ⟨f, a, n, m, now⟩ ∨ x ∈ A) → (∀ x ∈ A, ¬ (x.f = f ∧ x.a = a ∧ x.n = n) → x ∈ l') → lastOf (hdL l') k a' n' = if k = f ∧ a' = a ∧ n' = n then m else lastOf (hdL A) k a' n' := fun c1 c2 c3 => by
    by_cases hk : k = f ∧ a' = a ∧ n' = n
    · rw [if_pos hk]
      obtain ⟨rfl, rfl, rfl⟩ := hk
      exact lastOf_of q1 c1
    · rw [if_neg hk]
      by_cases he : ∃ x ∈ A, x.f = k ∧ x.a = a' ∧ x.n = n'
      · obtain ⟨x, hx, rfl, rfl, rfl⟩ := he
        rw [lastOf_of q1 (c3 x hx hk), lastOf_of hA hx]
      · have hno : ∀ x ∈ A, ¬ (x.f = k ∧ x.a = a' ∧ x.n = n') := fun x hx hh => he ⟨x, hx, hh⟩
        rw [lastOf_no hno, lastOf_no (fun x hx hh => ?_)]
        rcases c2 x hx with rfl | hx
        · exact hk ⟨hh.1.symm, hh.2.1.symm, hh.2.2.symm⟩
        · exact hno x hx hh
  unfold rPut at q9
  split at q9
  · rename_i hr
    have hmem : nth A (rIdx A f a n) ∈ A := nth_mem A _ hr.1
    split at q9
    · rename_i hm
      cases q9
      by_cases hk : k = f ∧ a' = a ∧ n' = n
      · rw [if_pos hk]
        have := lastOf_of hA hmem
        rw [hr.2.1, hr.2.2.1, hr.2.2.2] at this
        rw [hk.1, hk.2.1, hk.2.2, this, hm.1, hm.2]
      · rw [if_neg hk]
    · cases q9
      refine core (mem_set_new _ hr.1) (fun x hx => ?_) (fun x hx hk => ?_)
      · rcases List.mem_or_eq_of_mem_set hx with h1 | h1
        · exact .inr h1
        · exact .inl h1
      · rcases mem_set_of (i := rIdx A f a n) (y := (⟨f, a, n, m, now⟩ : Td)) hx with h1 | ⟨h1, h2⟩
        · exact h1
        · have : nth A (rIdx A f a n) = x := by rw [← h2]; unfold nth; simp [h1]
          have h9 := hr.2
          rw [this] at h9
          exact absurd h9 hk
  · rename_i hr
    split at q9
    · rename_i hm
      cases q9
      by_cases hk : k = f ∧ a' = a ∧ n' = n
      · rw [if_pos hk, hk.1, hk.2.1, hk.2.2, hm]
        refine lastOf_no (fun x hx hh => hr ?_)
        have := rIs_mem hA hx
        rwa [hh.1, hh.2.1, hh.2.2] at this
      · rw [if_neg hk]
    · split at q9
      · cases q9
      · cases q9
        refine core (by simp) (fun x hx => ?_) (fun x hx _ => ?_)
        · simp only [List.mem_append, List.mem_cons] at hx
          rcases hx with h1 | rfl | h1
          · exact .inr (List.mem_of_mem_take h1)
          · exact .inl rfl
          · exact .inr (List.mem_of_mem_drop h1)
        · rw [← List.take_append_drop (rIdx A f a n) A] at hx
          simp only [List.mem_append, List.mem_cons]
          rcases List.mem_append.1 hx with h1 | h1
          · exact .inl h1
          · exact .inr (.inr h1)
/-- What a message says of a net last. -/
def lastE (es : List En) (a n : Int) : Option Int := es.foldl (fun acc e => if e.a = a ∧ e.n = n then some e.m else acc) none
theorem lastE_snoc (es : List En) (e : En) (a n : Int) : lastE (es ++ [e]) a n = if e.a = a ∧ e.n = n then some e.m else lastE es a n := by
  unfold lastE; rw [List.foldl_append]; rfl
theorem aged_0 {l : List Td} (h : RibOk 0 l) : rAged 0 l = l := by
  have key : ∀ l : List Td, (∀ x ∈ l, age1 0 x = some x) → rAged 0 l = l := by
    intro l
    induction l with
    | nil => intro _; rfl
    | cons x l ih =>
      intro h
      unfold rAged at *
      rw [List.filterMap_cons, h x (by simp)]
      simp only
      rw [ih (fun y hy => h y (by simp [hy]))]
  refine key l (fun x hx => ?_)
  have hxo := h.each x hx
  have h0 := hxo.t0
  have h1 := hxo.t1
  by_cases hm : x.m < 16
  · exact age1_live hm (by omega)
  · rw [age1_dead hm, if_pos (by omega)]
theorem rPut_len {A l' : List Td} {f a n m now : Int} (h : rPut A f a n m now = .ok l') : l'.length ≤ A.length + 1 := by
  unfold rPut at h
  split at h
  · split at h <;> cases h <;> simp
  · split at h
    · cases h; omega
    · split at h
      · cases h
      · cases h
        have := rIdx_le A f a n
        simp only [List.length_append, List.length_cons, List.length_take, List.length_drop]
        omega
theorem learn_room {l : List Td} {f a n m : Int} (h : RibOk 0 l) (hl : l.length < 64) (hf : 0 ≤ f ∧ f < 8) (hn : netErr a n = none) (hm : 1 ≤ m ∧ m ≤ 16) : ∃ l', learnE 0 l f a n m 0 = .ok l' := by
  unfold learnE
  rw [if_neg (by unfold ckErr; omega), hn]
  simp only
  rw [if_neg (by omega), aged_0 h]
  unfold rPut
  split
  · split
    · exact ⟨_, rfl⟩
    · exact ⟨_, rfl⟩
  · split
    · exact ⟨_, rfl⟩
    · rw [if_neg (by omega)]; exact ⟨_, rfl⟩
theorem entErr_parts {e : En} (h : entErr e = none) : netErr e.a e.n = none ∧ 1 ≤ e.m ∧ e.m ≤ 16 := by
  unfold entErr at h
  split at h
  · cases h
  · split at h
    · cases h
    · exact ⟨by assumption, by omega, by omega⟩
/-- A message heard, where there is room. -/
theorem hear_last {D : DC} {f : Int} (hf : 0 ≤ f ∧ f < 8) {l : List Td} (h : RibOk 0 l) : ∀ es : List En, (∀ e ∈ es, entErr e = none ∧ En.wf e) → l.length + es.length ≤ 64 →
    RibOk 0 (hearL D f 0 l es) ∧ (hearL D f 0 l es).length ≤ l.length + es.length ∧ ∀ k a n, lastOf (hdL (hearL D f 0 l es)) k a n = if k = f ∧ (⟨a, n⟩ : Nt) ∉ D.own then (lastE es a n).getD (lastOf (hdL l) k a n) else lastOf (hdL l) k a n := by
  intro es
  refine snocI (P := fun es => (∀ e ∈ es, entErr e = none ∧ En.wf e) → l.length + es.length ≤ 64 →
    RibOk 0 (hearL D f 0 l es) ∧ (hearL D f 0 l es).length ≤ l.length + es.length ∧ ∀ k a n, lastOf (hdL (hearL D f 0 l es)) k a n = if k = f ∧ (⟨a, n⟩ : Nt) ∉ D.own then (lastE es a n).getD (lastOf (hdL l) k a n) else lastOf (hdL l) k a n) (fun _ _ => ⟨h, Nat.le_refl _, fun k a n => by split <;> rfl⟩) (fun es e ih he hl => ?_) es
  rw [List.length_append, List.length_singleton] at hl
  obtain ⟨i1, i2, i3⟩ := ih (fun x hx => he x (by simp [hx])) (by omega)
  obtain ⟨he1, he2⟩ := he e (by simp)
  obtain ⟨p1, p2, p3⟩ := entErr_parts he1
  have hst : hearL D f 0 l (es ++ [e]) = hear1 D f 0 (hearL D f 0 l es) e := by unfold hearL; rw [List.foldl_append]; rfl
  rw [hst]
  obtain ⟨L, hL⟩ : ∃ L, L = hearL D f 0 l es := ⟨_, rfl⟩
  rw [← hL] at i1 i2 i3 ⊢
  rw [List.length_append, List.length_singleton]
  by_cases ho : (⟨e.a, e.n⟩ : Nt) ∈ D.own
  · rw [hear1_own ho]
    refine ⟨i1, by omega, fun k a n => ?_⟩
    rw [i3, lastE_snoc]
    by_cases hk : k = f ∧ (⟨a, n⟩ : Nt) ∉ D.own
    · rw [if_pos hk, if_pos hk, if_neg (fun hh => hk.2 (by rw [← hh.1, ← hh.2]; exact ho))]
    · rw [if_neg hk, if_neg hk]
  · obtain ⟨l', hl'⟩ := learn_room i1 (by omega) hf p1 ⟨p2, p3⟩
    rw [hear1_ok ho hl']
    obtain ⟨q1, -, -, -, -, -, -, -, q9⟩ := learn_ok i1 he2.1 hl'
    rw [aged_0 i1] at q9
    refine ⟨q1, by have := rPut_len q9; omega, fun k a n => ?_⟩
    rw [learn_last i1 he2.1 hl', aged_0 i1, i3, lastE_snoc]
    by_cases hk : k = f ∧ (⟨a, n⟩ : Nt) ∉ D.own
    · rw [if_pos hk, if_pos hk]
      by_cases hq : k = f ∧ a = e.a ∧ n = e.n
      · rw [if_pos hq, if_pos ⟨hq.2.1.symm, hq.2.2.symm⟩]; rfl
      · rw [if_neg hq, if_neg (fun hh => hq ⟨hk.1, hh.1.symm, hh.2.symm⟩)]
    · rw [if_neg hk, if_neg hk, if_neg]
      rintro ⟨h1, h2, h3⟩
      exact hk ⟨h1, by rw [h2, h3]; exact ho⟩
/-- The table, of nets that are not one's own. -/
theorem TabR.other {w : World} {base : Nat} {D : DC} {now : Int} {l : List Td} {bad : Int} (hD : Dmn w base D now l bad) {R : List BestR} (h : TabR D l R) {q : Nt} (hq : q ∉ D.own) : q ∈ R.map bnet ↔ (bestM (hdL l) D.costs q.a q.n).1 < 16 := by
  rw [h.mem, bestD_other hq]
  refine ⟨fun hh => hh.2, fun hh => ⟨.inr ?_, hh⟩⟩
  have hl : ∀ x ∈ hdL l, 1 ≤ x.m ∧ x.m ≤ 16 := fun x hx => by
    obtain ⟨y, hy, rfl⟩ := List.mem_map.1 hx
    have := hD.ok.each y hy
    exact ⟨this.m0, this.m1⟩
  have hc := (nearE_ok hD.near).2
  rw [bestM_eq _ _ hl hc] at hh
  by_cases he : ∃ x ∈ l, (⟨x.a, x.n⟩ : Nt) = q
  · exact he
  · exfalso
    have h3 : ∀ k, k ≤ D.costs.length → mK (pOf (hdL l) D.costs q.a q.n) k = 16 := by
      intro k
      induction k with
      | zero => intro _; rfl
      | succ k ih =>
        intro hk
        unfold mK
        rw [ih (by omega)]
        have h16 : pOf (hdL l) D.costs q.a q.n k = 16 := by
          unfold pOf plusM
          rw [lastOf_no (fun x hx hk => he ⟨x, hx, by rw [hk.2.1, hk.2.2]⟩)]
          have := hc _ (nth_mem D.costs k (by omega))
          rw [if_neg (by omega)]
        rw [h16]
        rfl
    have := h3 _ (Nat.le_refl _)
    simp only at hh
    omega
end Go.Proofs.Ytgfbkebbnfcgkaa
end
