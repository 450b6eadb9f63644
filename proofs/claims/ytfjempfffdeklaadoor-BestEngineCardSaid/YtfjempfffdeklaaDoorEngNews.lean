import Derived.Test.YtfjempfffdeklaaDoorEngKeep
import Derived.Test.YtfjempfffdeklaaDoorEngAll
import Derived.Test.YtfjempfffdeklaaDoorNetsOf
namespace Go
theorem len_le_of_sub {l m : List Nt} (hn : l.Nodup) (hs : ∀ x ∈ l, x ∈ m) : l.length ≤ m.length := by
  induction l generalizing m with
  | nil => exact Nat.zero_le _
  | cons x l ih =>
    obtain ⟨h1, h2⟩ := List.nodup_cons.1 hn
    have hx := hs x (by simp)
    have := ih (m := m.erase x) h2 (fun y hy => (List.mem_erase_of_ne (fun e : y = x => h1 (by rw [← e]; exact hy))).2 (hs y (by simp [hy])))
    have hl := List.length_erase_of_mem hx
    have hp := List.length_pos_of_mem hx
    simp only [List.length_cons]
    omega
theorem sorted_filter {l : List Nt} (h : NSorted l) (p : Nt → Bool) : NSorted (l.filter p) := List.Pairwise.filter p h
end Go
namespace Go.Proofs.YtfjempfffdeklaaDoor
open Go.RowKit Go.Maps
theorem filter_snoc {α : Type} (p : α → Bool) (l : List α) (x : α) : (l ++ [x]).filter p = if p x then l.filter p ++ [x] else l.filter p := by
  rw [List.filter_append]
  by_cases h : p x = true
  · rw [if_pos h, List.filter_cons_of_pos h]; rfl
  · rw [if_neg h, List.filter_cons_of_neg h]; simp
/-- An engine, what it heard, what was shown. -/
structure BSt (w : World) (costs : List Int) (be bn : Nat) (ac : Option Addr) (cc : Nat) (a n : Int) (wr : World) (k : Nat) (all sh : List Hea) (E : List Ent) (U : Nat → Prop) (aA : Option Addr) (cA : Nat) (ob : Option Nat) (aS : Option Addr) (cS : Nat) (obS : Option Nat) : Prop where
  eng : Eng U wr be bn costs all E ac cc
  eh : EH w.heap.size 51 U wr.heap all E aA cA ob
  ownS : Own wr.heap 51 4 aS sh.length cS (sh.flatMap Hea.cells) obS
  apS : ∀ g, obS = some g → ¬ U g ∧ w.heap.size < g ∧ ob ≠ some g
  box : Blk wr.heap w.heap.size 37 [.int .u32 a, .int .i64 n]
  fr : Fr (fun _ => False) w wr
  la : all.length ≤ k
  ls : sh.length ≤ k
  shn : ∀ q : Nt, shownE E q = bestM sh costs q.a q.n
  keys : ∀ q : Nt, hasK E q ↔ q ∈ fstN all
  oks : ∀ x ∈ sh, heardE costs.length x = none
namespace BSt
variable {w wr w' : World} {costs : List Int} {be bn : Nat} {ac : Option Addr} {cc : Nat} {a n : Int} {k : Nat} {all sh : List Hea} {E : List Ent} {U : Nat → Prop} {aA : Option Addr} {cA : Nat} {ob : Option Nat} {aS : Option Addr} {cS : Nat} {obS : Option Nat}
theorem fr0 (h : BSt w costs be bn ac cc a n wr k all sh E U aA cA ob aS cS obS) (f : Fr (fun _ => False) wr w') : BSt w costs be bn ac cc a n w' k all sh E U aA cA ob aS cS obS :=
  ⟨h.eng.fr0 f, ⟨h.eh.own.fr f (fun _ _ h => h), h.eh.e64, h.eh.ap, h.eh.hi⟩, h.ownS.fr f (fun _ _ h => h), h.apS, h.box.fr f (fun h => h), h.fr.trans f, h.la, h.ls, h.shn, h.keys, h.oks⟩
theorem next (h : BSt w costs be bn ac cc a n wr k all sh E U aA cA ob aS cS obS) : BSt w costs be bn ac cc a n wr (k + 1) all sh E U aA cA ob aS cS obS :=
  ⟨h.eng, h.eh, h.ownS, h.apS, h.box, h.fr, Nat.le_succ_of_le h.la, Nat.le_succ_of_le h.ls, h.shn, h.keys, h.oks⟩
theorem elen (h : BSt w costs be bn ac cc a n wr k all sh E U aA cA ob aS cS obS) : E.length = (fstN all).length := by
  have hnd : (E.map (·.key)).Nodup := by
    rw [List.nodup_iff_pairwise_ne, List.pairwise_map]
    exact h.eng.ap.imp (fun {x y} hxy => hxy.2.2.2.2)
  have h1 : (E.map (·.key)).length ≤ (fstN all).length := len_le_of_sub hnd (fun q hq => by
    obtain ⟨x, hx, rfl⟩ := List.mem_map.1 hq
    exact (h.keys _).1 ⟨x, hx, rfl⟩)
  have h2 : (fstN all).length ≤ (E.map (·.key)).length := len_le_of_sub (fstN_nodup all) (fun q hq => by
    obtain ⟨x, hx, e⟩ := (h.keys q).2 hq
    exact List.mem_map.2 ⟨x, hx, e⟩)
  simp at h1 h2
  omega
theorem okall (h : BSt w costs be bn ac cc a n wr k all sh E U aA cA ob aS cS obS) : ∀ x ∈ all, 1 ≤ x.m ∧ x.m ≤ 16 := fun x hx => (heardE_ok (h.eng.ok x hx)).2.2.2
theorem oksh (h : BSt w costs be bn ac cc a n wr k all sh E U aA cA ob aS cS obS) : ∀ x ∈ sh, 1 ≤ x.m ∧ x.m ≤ 16 := fun x hx => (heardE_ok (h.oks x hx)).2.2.2
/-- One more is heard, and kept. -/
theorem heard (h : BSt w costs be bn ac cc a n wr k all sh E U aA cA ob aS cS obS) {x : Hea} {w3 : World} {E' : List Ent} (hs : setE costs E x = none) (f : Fr U wr w3) (hE : Eng (usesN U wr w3) w3 be bn costs (all ++ [x]) E' ac cc) (hk : E'.map (·.key) = keysE E ⟨x.a, x.n⟩) (hsh : ∀ q, shownE E' q = shownE E q)
    {w8 : World} {a8 : Option Addr} {c8 : Nat} {ob8 : Option Nat} (o : Obj) (v1 : Own w8.heap 51 4 a8 (all.length + 1) c8 (all.flatMap Hea.cells ++ Hea.cells x) ob8) (v2 : Fr (fun k => ob = some k) (w3.alloc o) w8) (v3 : ob8 = ob ∨ ∃ g, ob8 = some g ∧ w3.heap.size < g) :
    BSt w costs be bn ac cc a n w8 (k + 1) (all ++ [x]) sh E' (usesN U wr w3) a8 c8 ob8 aS cS obS := by
  have hws := h.fr.size
  have hs3 := f.size
  have holt := h.eh.own.lt
  have hslt := h.ownS.lt
  have hblt := h.box.lt
  have hu : ∀ k, usesN U wr w3 k → w.heap.size < k := fun k hk => by
    rcases hk with h1 | h1
    · exact h.eh.hi k h1
    · omega
  have hnu : ∀ g, g < wr.heap.size → ¬ U g → ¬ usesN U wr w3 g := fun g hg hU hh => by
    rcases hh with h1 | h1
    · exact hU h1
    · omega
  have hobu : ∀ g, ob = some g → ¬ usesN U wr w3 g := fun g hg => hnu g (holt g hg) (h.eh.ap g hg).1
  have hlt := hE.lt
  have fa : Fr (fun _ => False) w3 (w3.alloc o) := (Fr.refl _ _).alloc o
  have hob8 : ∀ g, ob8 = some g → ¬ usesN U wr w3 g ∧ w.heap.size < g := fun g hg => by
    rcases v3 with e | ⟨g', e, e2⟩
    · rw [e] at hg; exact ⟨hobu g hg, (h.eh.ap g hg).2⟩
    · rw [e] at hg; cases hg
      exact ⟨fun hh => by have := hlt g hh; omega, by omega⟩
  refine ⟨(hE.fr0 fa).fr v2 (fun k hk e => hobu k e hk), ⟨?_, keysE_len hs hk h.eh.e64, hob8, hu⟩, ?_, ?_, ?_, ?_, ?_, Nat.le_succ_of_le h.ls, fun q => (hsh q).trans (h.shn q), ?_, h.oks⟩
  · rw [List.length_append, List.flatMap_append]; simpa using v1
  · exact ((h.ownS.fr f (fun g hg s => (h.apS g hg).1 s)).fr fa (fun _ _ h => h)).fr v2 (fun g hg e => (h.apS g hg).2.2 e)
  · intro g hg
    refine ⟨hnu g (hslt g hg) (h.apS g hg).1, (h.apS g hg).2.1, ?_⟩
    rcases v3 with e | ⟨g', e, e2⟩
    · rw [e]; exact (h.apS g hg).2.2
    · rw [e]; intro e3; cases e3; have := hslt g hg; omega
  · exact ((h.box.fr f (fun s => by have := h.eh.hi _ s; omega)).fr fa (fun h => h)).fr v2 (fun e => by have := (h.eh.ap _ e).2; omega)
  · exact ((h.fr.trans' f (fun i hi s => by have := h.eh.hi i s; omega)).trans fa).trans' v2 (fun i hi e => by have := (h.eh.ap i e).2; omega)
  · rw [List.length_append]; have := h.la; simp; omega
  · intro q
    rw [fstN_snoc]
    have h1 : hasK E' q ↔ q ∈ keysE E ⟨x.a, x.n⟩ := by
      rw [← hk, List.mem_map]; rfl
    rw [h1]
    unfold keysE
    have hxk : hasK E ⟨x.a, x.n⟩ ↔ x.net ∈ fstN all := h.keys ⟨x.a, x.n⟩
    have hm : q ∈ E.map (·.key) ↔ q ∈ fstN all := by rw [← h.keys q, List.mem_map]; rfl
    by_cases hh : hasK E ⟨x.a, x.n⟩
    · rw [if_pos hh, if_pos (hxk.1 hh)]; exact hm
    · rw [if_neg hh, if_neg (fun h2 => hh (hxk.2 h2)), List.mem_cons, List.mem_append, List.mem_singleton, hm]
      exact ⟨fun e => e.elim (fun e => .inr e) .inl, fun e => e.elim .inr (fun e => .inl e)⟩
/-- All that was heard is shown. -/
theorem shown (h : BSt w costs be bn ac cc a n wr k all sh E U aA cA ob aS cS obS) {w' : World} {E' : List Ent} {aT : Option Addr} {cT : Nat} {obT : Option Nat} (f : Fr U wr w') (hE : Eng U w' be bn costs all E' ac cc) (hk : E'.map (·.key) = E.map (·.key)) (hsh : ∀ q : Nt, shownE E' q = bestM all costs q.a q.n)
    (hO : Own w'.heap 51 4 aT all.length cT (all.flatMap Hea.cells) obT) (hN : ∀ g, obT = some g → ¬ U g ∧ w.heap.size < g ∧ ob ≠ some g) :
    BSt w costs be bn ac cc a n w' k all all E' U aA cA ob aT cT obT := by
  have hl : E'.length = E.length := by have := congrArg List.length hk; simpa using this
  refine ⟨hE, ⟨h.eh.own.fr f (fun g hg s => (h.eh.ap g hg).1 s), by rw [hl]; exact h.eh.e64, h.eh.ap, h.eh.hi⟩, hO, hN, h.box.fr f (fun s => by have := h.eh.hi _ s; omega), h.fr.trans' f (fun i hi s => by have := h.eh.hi i s; omega), h.la, h.la, hsh, fun q => ?_, h.eng.ok⟩
  have h1 : hasK E' q ↔ q ∈ E'.map (·.key) := by rw [List.mem_map]; rfl
  have h2 : hasK E q ↔ q ∈ E.map (·.key) := by rw [List.mem_map]; rfl
  rw [h1, hk, ← h2]; exact h.keys q
end BSt
/-- What is news: just the same, whoever tells it. -/
theorem news_same {w wr : World} {costs : List Int} {be bn : Nat} {ac : Option Addr} {cc : Nat} {a n : Int} {k : Nat} {all sh : List Hea} {E : List Ent} {U : Nat → Prop} {aA : Option Addr} {cA : Nat} {ob : Option Nat} {aS : Option Addr} {cS : Nat} {obS : Option Nat}
    (h : BSt w costs be bn ac cc a n wr k all sh E U aA cA ob aS cS obS) {L : List Nt} (hs : NSorted L) (hm : ∀ q, q ∈ L ↔ ∃ x ∈ E, x.key = q ∧ dirP all costs x = true) : L = (netsM all).filter (fun q => decide (bestM all costs q.a q.n ≠ bestM sh costs q.a q.n)) := by
  refine nsorted_ext hs (sorted_filter (netsM_sorted all) _) (fun q => ?_)
  rw [hm, List.mem_filter, decide_eq_true_eq]
  constructor
  · rintro ⟨x, hx, rfl, hd⟩
    have h1 := of_decide_eq_true hd
    rw [← shownE_at h.eng.ap hx, h.shn] at h1
    refine ⟨?_, h1⟩
    have h2 := (h.keys x.key).1 ⟨x, hx, rfl⟩
    unfold netsM
    rw [ordered_mem]; exact h2
  · rintro ⟨h1, h2⟩
    unfold netsM at h1
    rw [ordered_mem] at h1
    obtain ⟨x, hx, e⟩ := (h.keys q).2 h1
    refine ⟨x, hx, e, ?_⟩
    subst e
    apply decide_eq_true
    rw [← shownE_at h.eng.ap hx, h.shn]
    exact h2
theorem ways_same {w wr : World} {costs : List Int} {be bn : Nat} {ac : Option Addr} {cc : Nat} {a n : Int} {k : Nat} {all sh : List Hea} {E : List Ent} {U : Nat → Prop} {aA : Option Addr} {cA : Nat} {ob : Option Nat} {aS : Option Addr} {cS : Nat} {obS : Option Nat}
    (h : BSt w costs be bn ac cc a n wr k all sh E U aA cA ob aS cS obS) {L : List Nt} (hs : NSorted L) (hm : ∀ q, q ∈ L ↔ ∃ x ∈ E, x.key = q ∧ allP all costs x = true) : L = (netsM all).filter (fun q => decide ((bestM all costs q.a q.n).1 < 16)) := by
  refine nsorted_ext hs (sorted_filter (netsM_sorted all) _) (fun q => ?_)
  rw [hm, List.mem_filter, decide_eq_true_eq]
  constructor
  · rintro ⟨x, hx, rfl, hd⟩
    refine ⟨?_, of_decide_eq_true hd⟩
    unfold netsM
    rw [ordered_mem]; exact (h.keys x.key).1 ⟨x, hx, rfl⟩
  · rintro ⟨h1, h2⟩
    unfold netsM at h1
    rw [ordered_mem] at h1
    obtain ⟨x, hx, e⟩ := (h.keys q).2 h1
    subst e
    exact ⟨x, hx, rfl, decide_eq_true h2⟩
end Go.Proofs.YtfjempfffdeklaaDoor
