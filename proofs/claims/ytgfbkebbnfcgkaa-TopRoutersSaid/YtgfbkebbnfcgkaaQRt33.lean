import Derived.Test.YtgfbkebbnfcgkaaQRt30
import Derived.Test.YtgfbkebbnfcgkaaQRt31
import Derived.Test.YtgfbkebbnfcgkaaQRt32
section
namespace Go.Proofs.Ytgfbkebbnfcgkaa
open Go.RowKit

/-! Routers that tell each other: what stands while they are made, while they tell, while they hear. -/
/-- The ways that are told are the same, whoever lists them. -/
theorem rt_same {D : DC} {l : List Td} {R S : List BestR} (hR : AllR D l R) (hS : AllR D l S) (tq : Int) : tellL tq R = tellL tq S := by
  have hn : R.map bnet = S.map bnet := nsx hR.srt hS.srt (fun q => by rw [hR.mem, hS.mem])
  have key : ∀ (T : List BestR), AllR D l T → T.map (tell1 tq) = (T.map bnet).map fun q => (⟨q.a, q.n, 0, 0, if tq ∈ (bestD D l q).2 then 16 else (bestD D l q).1⟩ : En) := fun T hT => by
    rw [List.map_map]
    refine List.map_congr_left (fun r hr => ?_)
    have hv := hT.val r hr
    show tell1 tq r = (⟨r.a, r.n, 0, 0, if tq ∈ (bestD D l (bnet r)).2 then 16 else (bestD D l (bnet r)).1⟩ : En)
    rw [← hv]
    rfl
  unfold tellL
  rw [key R hR, key S hS, hn]
/-- Costs of right links: from 1 to 16 between two. -/
theorem one_posR (n : Nat) : ∀ i k, i < n → k < n → i ≠ k → 1 ≤ at2 (ran n (oneRow n)) i k := by
  intro i k hi hk hne
  unfold at2
  rw [nth_ran n _ i hi, oneRow, nth_set _ _ _ _ (by simpa using hi), if_neg (fun e => hne e.symm), nth_replicate _ _ _ hk]
  decide
theorem fold_posR {n : Nat} : ∀ (l : List Lk) (rs : List (List Int)), CTab n rs → (∀ i k, i < n → k < n → i ≠ k → 1 ≤ at2 rs i k) → (∀ x ∈ l, ¬ Lk.bad n x ∧ x.a ≠ x.b) → ∀ i k, i < n → k < n → i ≠ k → 1 ≤ at2 (l.foldl putL rs) i k := by
  intro l
  induction l with
  | nil => intro rs _ h _; exact h
  | cons x l ih =>
    intro rs hc h hl
    obtain ⟨h1, h2⟩ := hl x (by simp)
    unfold Lk.bad at h1
    have ha : x.a.toNat < n := by omega
    have hb : x.b.toNat < n := by omega
    refine ih _ (putL_ctab hc x ha hb (by omega) (by omega)) (fun i k hi hk hne => ?_) (fun y hy => hl y (by simp [hy]))
    rw [putL_at hc.sq x ha hb]
    have := h i k hi hk hne
    split
    · omega
    · split
      · omega
      · exact this
theorem costs_cnet {N : Nat} {l : List Lk} (h : graphErr N l = none) : CNet N (costF N l) := by
  obtain ⟨hct, h8⟩ : CTab N (costsM N l) ∧ N ≤ 8 := by
    rcases costsE_cases (N : Int) l with ⟨k, e, -⟩ | ⟨m, hm, -, h8, -, -, hct⟩
    · rw [h] at e; cases e
    · obtain rfl : N = m := by omega
      exact ⟨hct, h8⟩
  obtain ⟨-, hok, -⟩ := graph_ok h
  exact ⟨h8, hct.sym, hct.dia, fun i k hi hk hne => ⟨fold_posR l _ (one_ctab N) (one_posR N) hok i k hi hk hne, (hct.bd i k hi hk).2⟩⟩
/-- A router of a node can be made. -/
theorem dnewE_node {N : Nat} {C : Nat → Nat → Int} (hC : CNet N C) {i : Nat} (hi : i < N) : dnewE ((nearL N C i).map (C i)) [⟨i, 32⟩] = none := by
  have h7 := nearL_len hC hi
  refine dnewE_none ?_ ?_ (by simp)
  · unfold nearE
    rw [if_neg]
    unfold nearBad
    rw [List.length_map]
    rintro (h | ⟨c, hc, h⟩)
    · omega
    · obtain ⟨u, hu, rfl⟩ := List.mem_map.1 hc
      have := nearL_mem.1 hu
      omega
  · unfold ownErr
    have : netErr (i : Int) 32 = none := by unfold netErr; rw [if_neg (by omega), if_neg (by simp)]
    simp only [this]
    rfl

/-! ### While they are made -/
structure Mk (N : Nat) (C : Nat → Nat → Int) (s : Nat) (w : World) (i : Nat) (Ds : Nat → DC) (ad : Option Addr) (cd : Nat) (obd : Option Nat) (an : Option Addr) (cn : Nat) (obn : Option Nat) (A : Nat → Option Addr) (cA : Nat → Nat) : Prop where
  made : Made N C s w i Ds
  ds : Ownd w.heap 28 1 ad i cd (cellsF i (ptv Ds)) obd
  nears : Ownd w.heap 31 1 an i cn (cellsF i (slv A (fun u => (nearL N C u).length) cA)) obn
  newd : ∀ g, obd = some g → s ≤ g ∧ Out Ds i g ∧ obn ≠ some g
  newn : ∀ g, obn = some g → s ≤ g ∧ Out Ds i g
  row : ∀ u, u < i → ∃ o, Ownd w.heap 3 1 (A u) (nearL N C u).length (cA u) (ivals .i64 ((nearL N C u).map Int.ofNat)) o ∧ ∀ g, o = some g → s ≤ g ∧ Out Ds i g ∧ obd ≠ some g ∧ obn ≠ some g
theorem Made.outNew {N : Nat} {C : Nat → Nat → Int} {s i : Nat} {w : World} {Ds : Nat → DC} (h : Made N C s w i Ds) {g : Nat} (hg : w.heap.size ≤ g) : Out Ds i g := fun k hk => .inr (Nat.le_trans (h.hi k hk) hg)
namespace Mk
variable {N : Nat} {C : Nat → Nat → Int} {s i : Nat} {w w' : World} {Ds : Nat → DC} {ad an : Option Addr} {cd cn : Nat} {obd obn : Option Nat} {A : Nat → Option Addr} {cA : Nat → Nat}
theorem start (N : Nat) (C : Nat → Nat → Int) (s : Nat) (w : World) (Ds : Nat → DC) (A : Nat → Option Addr) (cA : Nat → Nat) : Mk N C s w 0 Ds none 0 none none 0 none A cA :=
  ⟨Made.start N C s w Ds, Ownd.nil _ _ _, Ownd.nil _ _ _, (fun _ h => nomatch h), (fun _ h => nomatch h), fun _ h => absurd h (Nat.not_lt_zero _)⟩
theorem fr0 (h : Mk N C s w i Ds ad cd obd an cn obn A cA) (f : Fr (fun _ => False) w w') : Mk N C s w' i Ds ad cd obd an cn obn A cA :=
  ⟨h.made.fr0 f, h.ds.fr f (fun _ _ h => h), h.nears.fr f (fun _ _ h => h), h.newd, h.newn, fun u hu => by obtain ⟨o, h1, h2⟩ := h.row u hu; exact ⟨o, h1.fr f (fun _ _ h => h), h2⟩⟩
/-- One more router, one more row. -/
theorem push (h : Mk N C s w i Ds ad cd obd an cn obn A cA) (hsw : s ≤ w.heap.size) {w3 w4 w5 : World} {D : DC} {a1 ad' an' : Option Addr} {c1 cd' cn' : Nat} {o1 obd' obn' : Option Nat}
    (f3 : Fr (fun _ => False) w w3) (hrow : Ownd w3.heap 3 1 a1 (nearL N C i).length c1 (ivals .i64 ((nearL N C i).map Int.ofNat)) o1) (hn1 : ∀ g, o1 = some g → w.heap.size ≤ g ∧ g < D.lo)
    (hN : Node N C i D) (hlo : w.heap.size ≤ D.lo) (hhi : D.hi = w3.heap.size) (hD : ∀ base, w3.heap.size ≤ base → Dmn w3 base D 0 [] 0)
    (od : Ownd w4.heap 28 1 ad' (i + 1) cd' (cellsF i (ptv Ds) ++ [.pointer (some ⟨D.bd, 0, none⟩)]) obd') (f4 : Fr (fun k => obd = some k) w3 w4) (b4 : obd' = obd ∨ ∃ g, obd' = some g ∧ w3.heap.size ≤ g)
    (on : Ownd w5.heap 31 1 an' (i + 1) cn' (cellsF i (slv A (fun u => (nearL N C u).length) cA) ++ [.slice a1 (nearL N C i).length c1]) obn') (f5 : Fr (fun k => obn = some k) w4 w5) (b5 : obn' = obn ∨ ∃ g, obn' = some g ∧ w4.heap.size ≤ g) :
    Mk N C s w5 (i + 1) (upd Ds i D) ad' cd' obd' an' cn' obn' (upd A i a1) (upd cA i c1) := by
  have M3 := h.made.push hsw f3 hN hlo hhi hD
  have s3 := f3.size
  have s4 := f4.size
  have outOld : ∀ g, g < w.heap.size → Out Ds i g → Out (upd Ds i D) (i + 1) g := fun g hg ho => ho.snoc (.inl (by omega))
  have M4 := M3.fr f4 (fun g hg => ⟨by have := h.ds.lt g hg; omega, outOld g (h.ds.lt g hg) (h.newd g hg).2.1⟩)
  have M5 := M4.fr f5 (fun g hg => ⟨by have := h.nears.lt g hg; omega, outOld g (h.nears.lt g hg) (h.newn g hg).2⟩)
  refine ⟨M5, ?_, ?_, fun g hg => ?_, fun g hg => ?_, fun u hu => ?_⟩
  · have e : cellsF (i + 1) (ptv (upd Ds i D)) = cellsF i (ptv Ds) ++ [.pointer (some ⟨D.bd, 0, none⟩)] := cellsF_snoc (fun x hx => by unfold ptv; rw [upd_lt _ _ hx]) (by unfold ptv; rw [upd_eq])
    rw [e]
    refine od.fr f5 (fun g hg hn => ?_)
    have := h.nears.lt g hn
    rcases b4 with e | ⟨g', e, e2⟩
    · rw [e] at hg; exact (h.newd g hg).2.2 hn
    · rw [e] at hg; cases hg; omega
  · have e : cellsF (i + 1) (slv (upd A i a1) (fun u => (nearL N C u).length) (upd cA i c1)) = cellsF i (slv A (fun u => (nearL N C u).length) cA) ++ [.slice a1 (nearL N C i).length c1] := cellsF_snoc (fun x hx => by unfold slv; rw [upd_lt _ _ hx, upd_lt _ _ hx]) (by unfold slv; rw [upd_eq, upd_eq])
    rw [e]; exact on
  · have hlt := od.lt g hg
    rcases b4 with e | ⟨g', e, e2⟩
    · rw [e] at hg
      obtain ⟨k1, k2, k3⟩ := h.newd g hg
      have hl := h.ds.lt g hg
      refine ⟨k1, outOld g hl k2, ?_⟩
      rcases b5 with e5 | ⟨g5, e5, e6⟩
      · rw [e5]; exact k3
      · rw [e5]; intro e7; cases e7; omega
    · rw [e] at hg
      cases hg
      refine ⟨by omega, M3.outNew e2, ?_⟩
      rcases b5 with e5 | ⟨g5, e5, e6⟩
      · rw [e5]; intro e7; have := h.nears.lt _ e7; omega
      · rw [e5]; intro e7; cases e7; omega
  · rcases b5 with e | ⟨g', e, e2⟩
    · rw [e] at hg
      obtain ⟨k1, k2⟩ := h.newn g hg
      exact ⟨k1, outOld g (h.nears.lt g hg) k2⟩
    · rw [e] at hg
      cases hg
      exact ⟨by omega, M3.outNew (by omega)⟩
  · by_cases hui : u = i
    · subst hui
      rw [upd_eq, upd_eq]
      refine ⟨o1, (hrow.fr f4 (fun g hg hn => ?_)).fr f5 (fun g hg hn => ?_), fun g hg => ?_⟩
      · have := h.ds.lt g hn; have := (hn1 g hg).1; omega
      · have := h.nears.lt g hn; have := (hn1 g hg).1; omega
      · obtain ⟨k1, k2⟩ := hn1 g hg
        have k3 := hrow.lt g hg
        refine ⟨by omega, fun k hk => ?_, ?_, ?_⟩
        · by_cases e : k = u
          · subst e; rw [upd_eq]; exact .inl k2
          · rw [upd_ne _ _ e]; exact .inr (Nat.le_trans (h.made.hi k (by omega)) k1)
        · rcases b4 with e | ⟨g', e, e2⟩
          · rw [e]; intro e7; have := h.ds.lt _ e7; omega
          · rw [e]; intro e7; cases e7; omega
        · rcases b5 with e | ⟨g', e, e2⟩
          · rw [e]; intro e7; have := h.nears.lt _ e7; omega
          · rw [e]; intro e7; cases e7; omega
    · rw [upd_ne _ _ hui, upd_ne _ _ hui]
      obtain ⟨o, h1, h2⟩ := h.row u (by omega)
      refine ⟨o, ((h1.fr f3 (fun _ _ h => h)).fr f4 (fun g hg hn => (h2 g hg).2.2.1 hn)).fr f5 (fun g hg hn => (h2 g hg).2.2.2 hn), fun g hg => ?_⟩
      obtain ⟨k1, k2, k3, k4⟩ := h2 g hg
      have hl := h1.lt g hg
      refine ⟨k1, outOld g hl k2, ?_, ?_⟩
      · rcases b4 with e | ⟨g', e, e2⟩
        · rw [e]; exact k3
        · rw [e]; intro e7; cases e7; omega
      · rcases b5 with e | ⟨g', e, e2⟩
        · rw [e]; exact k4
        · rw [e]; intro e7; cases e7; omega
end Mk

/-! ### Ready: what the rounds only read -/
structure Rdy (N : Nat) (C : Nat → Nat → Int) (w : World) (Ds : Nat → DC) (gd gn : Nat) (G : Nat → Nat) (A : Nat → Option Addr) (cA : Nat → Nat) : Prop where
  ld : gd < w.heap.size
  ln : gn < w.heap.size
  ds : ∀ k, k < N → w.cell? ⟨gd, k, none⟩ = some (.pointer (some ⟨(Ds k).bd, 0, none⟩))
  near : ∀ k, k < N → w.cell? ⟨gn, k, none⟩ = some (.slice (A k) (nearL N C k).length (cA k))
  row : ∀ u, u < N → 0 < (nearL N C u).length → A u = some ⟨G u, 0, none⟩ ∧ G u < w.heap.size ∧ ∀ x, x < (nearL N C u).length → w.cell? ⟨G u, x, none⟩ = some (.int .i64 ((nth (nearL N C u) x : Nat) : Int))
  od : ∀ k, k < N → gd ≠ (Ds k).bd ∧ gd ≠ (Ds k).br
  on : ∀ k, k < N → gn ≠ (Ds k).bd ∧ gn ≠ (Ds k).br
  orow : ∀ u, u < N → 0 < (nearL N C u).length → ∀ k, k < N → G u ≠ (Ds k).bd ∧ G u ≠ (Ds k).br
namespace Rdy
variable {N : Nat} {C : Nat → Nat → Int} {w w' : World} {Ds : Nat → DC} {gd gn : Nat} {G : Nat → Nat} {A : Nat → Option Addr} {cA : Nat → Nat} {S : Nat → Prop}
theorem fr' (h : Rdy N C w Ds gd gn G A cA) (f : Fr S w w') (h1 : ¬ S gd) (h2 : ¬ S gn) (h3 : ∀ u, u < N → 0 < (nearL N C u).length → ¬ S (G u)) : Rdy N C w' Ds gd gn G A cA :=
  ⟨Nat.lt_of_lt_of_le h.ld f.size, Nat.lt_of_lt_of_le h.ln f.size, fun k hk => (f.cell h.ld h1).trans (h.ds k hk), fun k hk => (f.cell h.ln h2).trans (h.near k hk),
    fun u hu hp => by obtain ⟨k1, k2, k3⟩ := h.row u hu hp; exact ⟨k1, Nat.lt_of_lt_of_le k2 f.size, fun x hx => (f.cell k2 (h3 u hu hp)).trans (k3 x hx)⟩, h.od, h.on, h.orow⟩
theorem fr0 (h : Rdy N C w Ds gd gn G A cA) (f : Fr (fun _ => False) w w') : Rdy N C w' Ds gd gn G A cA := h.fr' f (fun h => h) (fun h => h) (fun _ _ _ h => h)
theorem fr (h : Rdy N C w Ds gd gn G A cA) {k : Nat} (hk : k < N) (f : Fr (fun b => b = (Ds k).bd ∨ b = (Ds k).br) w w') : Rdy N C w' Ds gd gn G A cA :=
  h.fr' f (fun e => by have := h.od k hk; omega) (fun e => by have := h.on k hk; omega) (fun u hu hp e => by have := h.orow u hu hp k hk; omega)
end Rdy
theorem Mk.rdy {N : Nat} {C : Nat → Nat → Int} {s : Nat} {w : World} {Ds : Nat → DC} {ad an : Option Addr} {cd cn : Nat} {obd obn : Option Nat} {A : Nat → Option Addr} {cA : Nat → Nat} (h : Mk N C s w N Ds ad cd obd an cn obn A cA) (hN : 0 < N) :
    ∃ gd gn G, ad = some ⟨gd, 0, none⟩ ∧ an = some ⟨gn, 0, none⟩ ∧ Rdy N C w Ds gd gn G A cA := by
  obtain ⟨gd, rfl, rfl, hgd, hcd, -⟩ := h.ds.pos hN
  obtain ⟨gn, rfl, rfl, hgn, hcn, -⟩ := h.nears.pos hN
  have hout : ∀ g, Out Ds N g → ∀ k, k < N → g ≠ (Ds k).bd ∧ g ≠ (Ds k).br := fun g hg k hk => by
    have hd := h.made.dm k hk w.heap.size (Nat.le_refl _)
    have := hd.lbd
    have := hd.lbr
    have := hg k hk
    omega
  have hrow : ∀ u, ∃ g, u < N → 0 < (nearL N C u).length → A u = some ⟨g, 0, none⟩ ∧ g < w.heap.size ∧ (∀ x, x < (nearL N C u).length → w.cell? ⟨g, x, none⟩ = some (.int .i64 ((nth (nearL N C u) x : Nat) : Int))) ∧ ∀ k, k < N → g ≠ (Ds k).bd ∧ g ≠ (Ds k).br := fun u => by
    by_cases hu : u < N ∧ 0 < (nearL N C u).length
    · obtain ⟨o, h1, h2⟩ := h.row u hu.1
      obtain ⟨g, ha, hob, hg, hc, -⟩ := h1.pos hu.2
      refine ⟨g, fun _ _ => ⟨ha, hg, fun x hx => ?_, hout g (h2 g hob).2.1⟩⟩
      rw [hc x (by omega), ivals_get _ _ _ (by simpa using hx), nth_map _ _ _ hx]
      rfl
    · exact ⟨0, fun a b => absurd ⟨a, b⟩ hu⟩
  refine ⟨gd, gn, fun u => Classical.choose (hrow u), rfl, rfl, hgd, hgn, fun k hk => ?_, fun k hk => ?_, fun u hu hp => ?_, hout gd (h.newd gd rfl).2.1, hout gn (h.newn gn rfl).2, fun u hu hp => (Classical.choose_spec (hrow u) hu hp).2.2.2⟩
  · rw [hcd k (by omega), cellsF_get _ hk]
  · rw [hcn k (by omega), cellsF_get _ hk]
  · obtain ⟨k1, k2, k3, -⟩ := Classical.choose_spec (hrow u) hu hp
    exact ⟨k1, k2, k3⟩

/-! ### Between two rounds -/
structure RInv (N : Nat) (C : Nat → Nat → Int) (F : Nat → List Int) (B : Nat) (w : World) (Ds : Nat → DC) (r : Nat) (nows : Nat → Int) (L : Nat → List Td) : Prop where
  rts : Rts N C B w Ds nows L
  snd : ∀ k, k < N → Sound N C F k (L k)
  cpl : ∀ k, k < N → Compl N F (Ds k) k r (L k)
  tim : ∀ k, k < N → nows k ≤ r
theorem RInv.fr0 {N : Nat} {C : Nat → Nat → Int} {F : Nat → List Int} {B : Nat} {w w' : World} {Ds : Nat → DC} {r : Nat} {nows : Nat → Int} {L : Nat → List Td} (h : RInv N C F B w Ds r nows L) (f : Fr (fun _ => False) w w') : RInv N C F B w' Ds r nows L := ⟨h.rts.fr0 f, h.snd, h.cpl, h.tim⟩
theorem Mk.rinv {N : Nat} {C : Nat → Nat → Int} {F : Nat → List Int} {s : Nat} {w : World} {Ds : Nat → DC} {ad an : Option Addr} {cd cn : Nat} {obd obn : Option Nat} {A : Nat → Option Addr} {cA : Nat → Nat} (h : Mk N C s w N Ds ad cd obd an cn obn A cA) (hC : CNet N C) (hF : ∀ q, q < N → IsFar N C q (F q)) :
    RInv N C F w.heap.size w Ds 0 (fun _ => 0) (fun _ => []) :=
  ⟨h.made.rts, fun k _ => sound_nil N C F k, fun _ hk => start_compl hC hF hk, fun _ _ => by omega⟩

/-! ### While they tell -/
theorem ToI.tell {B : Nat} {H : Array Obj} {R : Nat → List BestR} {Ri : List BestR} {i j : Nat} {aT : Option Addr} {cT : Nat} {ob : Option Nat} {A3 : Nat → Option Addr} {c3 : Nat → Nat} {D : DC} {l : List Td} (h : ToI B H (upd R i Ri) i j aT cT ob A3 c3) (hA : 0 < j → AllR D l Ri) (R' : List BestR) (hR' : AllR D l R') :
    ∃ Ri', AllR D l Ri' ∧ ToI B H (upd R i Ri') i j aT cT ob A3 c3 ∧ encD false (tellL j R') = msgB (upd R i Ri') i j := by
  rcases Nat.eq_zero_or_pos j with e | e
  · subst e
    refine ⟨R', hR', ⟨?_, h.new, fun _ h => absurd h (Nat.not_lt_zero _)⟩, by unfold msgB; rw [upd_eq]⟩
    have := h.own
    exact this
  · exact ⟨Ri, hA e, h, by unfold msgB; rw [upd_eq, rt_same hR' (hA e)]⟩
structure SayI (N : Nat) (C : Nat → Nat → Int) (B : Nat) (w : World) (Ds : Nat → DC) (L0 : Nat → List Td) (R : Nat → List BestR) (i : Nat) (aS : Option Addr) (cS : Nat) (obS : Option Nat) (A2 : Nat → Option Addr) (c2 : Nat → Nat) (A3 : Nat → Nat → Option Addr) (c3 : Nat → Nat → Nat) : Prop where
  said : Said N C B w.heap R i obS A2 c2 A3 c3
  top : Ownd w.heap 43 1 aS i cS (cellsF i (slv A2 (fun u => (nearL N C u).length) c2)) obS
  new : ∀ g, obS = some g → B ≤ g
  all : ∀ u, u < i → 0 < (nearL N C u).length → AllR (Ds u) (L0 u) (R u)
namespace SayI
variable {N : Nat} {C : Nat → Nat → Int} {B : Nat} {w w' : World} {Ds : Nat → DC} {L0 : Nat → List Td} {R : Nat → List BestR} {i : Nat} {aS : Option Addr} {cS : Nat} {obS : Option Nat} {A2 : Nat → Option Addr} {c2 : Nat → Nat} {A3 : Nat → Nat → Option Addr} {c3 : Nat → Nat → Nat}
theorem start (N : Nat) (C : Nat → Nat → Int) (B : Nat) (w : World) (Ds : Nat → DC) (L0 : Nat → List Td) (R : Nat → List BestR) (A2 : Nat → Option Addr) (c2 : Nat → Nat) (A3 : Nat → Nat → Option Addr) (c3 : Nat → Nat → Nat) : SayI N C B w Ds L0 R 0 none 0 none A2 c2 A3 c3 :=
  ⟨Said.start _ _ _ _ _ _ _ _ _ _, Ownd.nil _ _ _, (fun _ h => nomatch h), fun _ h => absurd h (Nat.not_lt_zero _)⟩
theorem fr {S : Nat → Prop} (h : SayI N C B w Ds L0 R i aS cS obS A2 c2 A3 c3) (f : Fr S w w') (hs : ∀ b, S b → b < B) : SayI N C B w' Ds L0 R i aS cS obS A2 c2 A3 c3 :=
  ⟨h.said.fr f hs, h.top.fr f (fun g hg e => by have := h.new g hg; have := hs g e; omega), h.new, h.all⟩
theorem fr0 (h : SayI N C B w Ds L0 R i aS cS obS A2 c2 A3 c3) (f : Fr (fun _ => False) w w') : SayI N C B w' Ds L0 R i aS cS obS A2 c2 A3 c3 := h.fr f (fun _ h => h.elim)
/-- One has told all its neighbours. -/
theorem push (h : SayI N C B w Ds L0 R i aS cS obS A2 c2 A3 c3) (hB : B ≤ w.heap.size) {wj : World} (fj : Fr (fun _ => False) w wj) {Ri : List BestR} {aT aS' : Option Addr} {cT cS' : Nat} {obT obS' : Option Nat} {a3 : Nat → Option Addr} {k3 : Nat → Nat}
    (hT : ToI w.heap.size wj.heap (upd R i Ri) i (nearL N C i).length aT cT obT a3 k3) (hA : 0 < (nearL N C i).length → AllR (Ds i) (L0 i) Ri)
    (hO : Ownd w'.heap 43 1 aS' (i + 1) cS' (cellsF i (slv A2 (fun u => (nearL N C u).length) c2) ++ [.slice aT (nearL N C i).length cT]) obS') (f : Fr (fun k => obS = some k) wj w') (hob : obS' = obS ∨ ∃ g, obS' = some g ∧ wj.heap.size ≤ g) :
    SayI N C B w' Ds L0 (upd R i Ri) (i + 1) aS' cS' obS' (upd A2 i aT) (upd c2 i cT) (upd A3 i a3) (upd c3 i k3) := by
  have sj := fj.size
  refine ⟨((h.said.fr0 fj).other (fun u hu => upd_lt _ _ hu)).push hT hB (fun g hg => h.top.lt g hg) f hob, ?_, fun g hg => ?_, fun u hu hp => ?_⟩
  · have e : cellsF (i + 1) (slv (upd A2 i aT) (fun u => (nearL N C u).length) (upd c2 i cT)) = cellsF i (slv A2 (fun u => (nearL N C u).length) c2) ++ [.slice aT (nearL N C i).length cT] := cellsF_snoc (fun x hx => by unfold slv; rw [upd_lt _ _ hx, upd_lt _ _ hx]) (by unfold slv; rw [upd_eq, upd_eq])
    rw [e]; exact hO
  · rcases hob with e | ⟨g', e, e2⟩
    · rw [e] at hg; exact h.new g hg
    · rw [e] at hg; cases hg; omega
  · by_cases e : u = i
    · subst e; rw [upd_eq]; exact hA hp
    · rw [upd_ne _ _ e]; exact h.all u (by omega) hp
/-- What one told another. -/
theorem get (h : SayI N C B w Ds L0 R i aS cS obS A2 c2 A3 c3) {u j : Nat} (hu : u < i) (hj : j < (nearL N C u).length) :
    ∃ gS g2, aS = some ⟨gS, 0, none⟩ ∧ gS < w.heap.size ∧ w.cell? ⟨gS, u, none⟩ = some (.slice (some ⟨g2, 0, none⟩) (nearL N C u).length (c2 u)) ∧ g2 < w.heap.size ∧ w.cell? ⟨g2, j, none⟩ = some (.slice (A3 u j) (msgB R u j).length (c3 u j)) ∧ ∃ o, Ownd w.heap 5 1 (A3 u j) (msgB R u j).length (c3 u j) (ivals .u8 (msgB R u j)) o := by
  obtain ⟨gS, ha, -, hg, hc, -⟩ := h.top.pos (by omega)
  obtain ⟨o, h1, -⟩ := h.said.row u hu
  obtain ⟨g2, ha2, -, hg2, hc2, -⟩ := h1.pos (by omega)
  obtain ⟨o3, h3, -⟩ := h.said.byt u hu j hj
  refine ⟨gS, g2, ha, hg, ?_, hg2, ?_, o3, h3⟩
  · rw [hc u (by omega), cellsF_get _ hu]
    unfold slv
    rw [ha2]
  · rw [hc2 j (by omega), cellsF_get _ hj]
end SayI
/-- What is told is right, and there is room for it. -/
theorem tell_facts {N : Nat} {C : Nat → Nat → Int} {F : Nat → List Int} {B : Nat} {w : World} {Ds : Nat → DC} {r : Nat} {nows : Nat → Int} {L : Nat → List Td} (hC : CNet N C) (h : RInv N C F B w Ds r nows L) {k : Nat} (hk : k < N) {R : List BestR} (hR : AllR (Ds k) (L k) R) (tq : Int) :
    msgErr (tellL tq R) = none ∧ (∀ e ∈ tellL tq R, (entErr e = none ∧ En.wf e) ∧ e.n = 32 ∧ 0 ≤ e.a ∧ e.a < N) ∧ (tellL tq R).length ≤ 8 := by
  have hD := h.rts.dm k hk
  have hN := h.rts.node k hk
  have hs := h.snd k hk
  obtain ⟨k1, k2⟩ := tellL_ok (tq := tq) hD hR
  refine ⟨k1, fun e he => ⟨⟨?_, k2 e he⟩, ?_⟩, ?_⟩
  · obtain ⟨b, hb, rfl⟩ := tellL_mem he
    obtain ⟨q1, -, q3, q4, -⟩ := hR.each hD b hb
    unfold entErr tell1
    simp only
    rw [q1]
    simp only
    rw [if_neg (by split <;> omega)]
  · obtain ⟨b, hb, rfl⟩ := tellL_mem he
    have hm := (hR.mem (bnet b)).1 (List.mem_map.2 ⟨b, hb, rfl⟩)
    show b.n = 32 ∧ 0 ≤ b.a ∧ b.a < N
    rcases hm with hm | ⟨y, hy, e⟩
    · rw [hN.own, List.mem_singleton] at hm
      have e1 : b.a = k := congrArg Nt.a hm
      have e2 : b.n = 32 := congrArg Nt.n hm
      omega
    · have e1 : y.a = b.a := congrArg Nt.a e
      have e2 : y.n = b.n := congrArg Nt.n e
      have := hs.net y hy
      omega
  · have := nets_len hN hk hs hR
    have h8 := hC.n8
    unfold tellL
    rw [List.length_take, List.length_map]
    omega

/-! ### While they hear -/
structure HearI (N : Nat) (C : Nat → Nat → Int) (B : Nat) (w : World) (Ds : Nat → DC) (R : Nat → List BestR) (r : Nat) (L0 : Nat → List Td) (i j : Nat) (nows : Nat → Int) (L : Nat → List Td) : Prop where
  rts : Rts N C B w Ds nows L
  mid : ∀ k, k < N → MidT N C R i j k (L0 k) (L k)
  tim : ∀ k, k < N → nows k ≤ r
namespace HearI
variable {N : Nat} {C : Nat → Nat → Int} {F : Nat → List Int} {B : Nat} {w w' : World} {Ds : Nat → DC} {R : Nat → List BestR} {r : Nat} {L0 : Nat → List Td} {i j : Nat} {nows nows0 : Nat → Int} {L : Nat → List Td}
theorem fr0 (h : HearI N C B w Ds R r L0 i j nows L) (f : Fr (fun _ => False) w w') : HearI N C B w' Ds R r L0 i j nows L := ⟨h.rts.fr0 f, h.mid, h.tim⟩
theorem start (h : RInv N C F B w Ds r nows L) (R : Nat → List BestR) : HearI N C B w Ds R r L 0 0 nows L := ⟨h.rts, fun k hk => mid_start (h.snd k hk).net, h.tim⟩
theorem next (h : HearI N C B w Ds R r L0 i (nearL N C i).length nows L) (hC : CNet N C) : HearI N C B w Ds R r L0 (i + 1) 0 nows L := ⟨h.rts, fun k hk => mid_next hC hk (h.mid k hk), h.tim⟩
/-- One hears. -/
theorem heard (h : HearI N C B w Ds R r L0 i j nows L) (hC : CNet N C) (hi : i < N) (hj : j < (nearL N C i).length) (hr : r < 120) (hew : ∀ e ∈ tellL j (R i), (entErr e = none ∧ En.wf e) ∧ e.n = 32 ∧ 0 ≤ e.a ∧ e.a < N) (hel : (tellL j (R i)).length ≤ 8)
    (hD : Dmn w' B (Ds (nth (nearL N C i) j)) r (hearL (Ds (nth (nearL N C i) j)) (posL (nearL N C (nth (nearL N C i) j)) i) r (rAged r (L (nth (nearL N C i) j))) (tellL j (R i))) 0)
    (f : Fr (fun b => b = (Ds (nth (nearL N C i) j)).bd ∨ b = (Ds (nth (nearL N C i) j)).br) w w') :
    HearI N C B w' Ds R r L0 i (j + 1) (upd nows (nth (nearL N C i) j) r) (upd L (nth (nearL N C i) j) (hearL (Ds (nth (nearL N C i) j)) (posL (nearL N C (nth (nearL N C i) j)) i) r (rAged r (L (nth (nearL N C i) j))) (tellL j (R i)))) := by
  have hk := (nearL_mem.1 (nth_mem (nearL N C i) j hj)).1
  refine ⟨h.rts.put hk hD f, fun k hkN => ?_, fun k hkN => ?_⟩
  · by_cases e : k = nth (nearL N C i) j
    · subst e
      rw [upd_eq]
      have hd := h.rts.dm _ hkN
      exact mid_heard hC hi hj (h.rts.node _ hkN) hd.ok (h.tim _ hkN) (by omega) (fun x hx => (hd.by' x hx).1) (h.mid _ hkN) rfl hew hel
    · rw [upd_ne _ _ e]
      exact mid_other hC hi hkN hj e (h.mid k hkN)
  · by_cases e : k = nth (nearL N C i) j
    · subst e; rw [upd_eq]; exact Int.le_refl _
    · rw [upd_ne _ _ e]; exact h.tim k hkN
/-- The round is over. -/
theorem done (h : HearI N C B w Ds R r L0 N 0 nows L) (hC : CNet N C) (hF : ∀ q, q < N → IsFar N C q (F q)) {w0 : World} (h0 : RInv N C F B w0 Ds r nows0 L0) (hR : ∀ k, k < N → 0 < (nearL N C k).length → AllR (Ds k) (L0 k) (R k)) : RInv N C F B w Ds (r + 1) nows L := by
  have key : ∀ k, k < N → Sound N C F k (L k) ∧ Compl N F (Ds k) k (r + 1) (L k) := fun k hk => mid_end hC hF h.rts.node (fun k hk => (h0.rts.dm k hk).ok) h0.snd h0.cpl hR hk (h.rts.dm k hk).ok (h.mid k hk)
  exact ⟨h.rts, fun k hk => (key k hk).1, fun k hk => (key k hk).2, fun k hk => by have := h.tim k hk; omega⟩
/-- What one hears it takes. -/
theorem takes (h : HearI N C B w Ds R r L0 i j nows L) (hC : CNet N C) (hi : i < N) (hj : j < (nearL N C i).length) (hr : r < 120) (hme : msgErr (tellL j (R i)) = none) (hew : ∀ e ∈ tellL j (R i), (entErr e = none ∧ En.wf e) ∧ e.n = 32 ∧ 0 ≤ e.a ∧ e.a < N) :
    hearM (Ds (nth (nearL N C i) j)) (nows (nth (nearL N C i) j)) (L (nth (nearL N C i) j)) 0 (msgB R i j) (posL (nearL N C (nth (nearL N C i) j)) i) r = ⟨none, r, hearL (Ds (nth (nearL N C i) j)) (posL (nearL N C (nth (nearL N C i) j)) i) r (rAged r (L (nth (nearL N C i) j))) (tellL j (R i)), 0⟩ := by
  have hkm := nth_mem (nearL N C i) j hj
  have hk := (nearL_mem.1 hkm).1
  have hp := posL_lt (near_back hC hi hkm)
  refine hearM_ok (fun ht => ?_) (decD_encD false _ (fun e he => (hew e he).1.2) hme)
  unfold timeErr at ht
  have := h.tim _ hk
  rw [(h.rts.node _ hk).len] at ht
  omega
end HearI
end Go.Proofs.Ytgfbkebbnfcgkaa
end

section
namespace Go.Proofs.Ytgfbkebbnfcgkaa
open Go.RowKit

/-! A round of hearing, seen from the walk: H i j W says that in W node i has told its first j neighbours. -/
theorem hear_world {N : Nat} {C : Nat → Nat → Int} {F : Nat → List Int} {B : Nat} {w wa wi : World} {Ds : Nat → DC} {r : Nat} {nows : Nat → Int} {L : Nat → List Td} {R : Nat → List BestR} {aS : Option Addr} {cS : Nat} {obS : Option Nat} {A2 : Nat → Option Addr} {c2 : Nat → Nat} {A3 : Nat → Nat → Option Addr} {c3 : Nat → Nat → Nat}
    {gd gn : Nat} {G : Nat → Nat} {A : Nat → Option Addr} {cA : Nat → Nat}
    (hC : CNet N C) (hF : ∀ q, q < N → IsFar N C q (F q)) (hRI : RInv N C F B wa Ds r nows L) (hRd : Rdy N C wa Ds gd gn G A cA) (hS : SayI N C wa.heap.size wi Ds L R N aS cS obS A2 c2 A3 c3) (hFi : Fr (fun _ => False) wa wi) (hFa : Fr (fun _ => False) w wa) (hr : r < N)
    (hlo : ∀ k, k < N → w.heap.size ≤ (Ds k).lo) :
    ∃ H : Nat → Nat → World → Prop, H 0 0 wi ∧ (∀ i j W, H i j W → Rdy N C W Ds gd gn G A cA) ∧
      (∀ i j W u v, H i j W → u < N → v < (nearL N C u).length → ∃ gS g2, aS = some ⟨gS, 0, none⟩ ∧ gS < W.heap.size ∧ W.cell? ⟨gS, u, none⟩ = some (.slice (some ⟨g2, 0, none⟩) (nearL N C u).length (c2 u)) ∧ g2 < W.heap.size ∧ W.cell? ⟨g2, v, none⟩ = some (.slice (A3 u v) (msgB R u v).length (c3 u v))) ∧
      (∀ i W, H i (nearL N C i).length W → H (i + 1) 0 W) ∧ (∀ i j W W', H i j W → Fr (fun _ => False) W W' → H i j W') ∧
      (∀ i j W, H i j W → i < N → j < (nearL N C i).length → Calls Try.prog 10 #[.pointer (some ⟨(Ds (nth (nearL N C i) j)).bd, 0, none⟩), .slice (A3 i j) (msgB R i j).length (c3 i j), .int .i64 (posL (nearL N C (nth (nearL N C i) j)) i), .int .i64 r] W (fun e W' => e = .returned .nilIface ∧ H i (j + 1) W')) ∧
      (∀ W, H N 0 W → ∃ (nows' : Nat → Int) (L' : Nat → List Td), RInv N C F B W Ds (r + 1) nows' L' ∧ Rdy N C W Ds gd gn G A cA ∧ Fr (fun _ => False) w W) := by
  have h8 := hC.n8
  have hBa := hRI.rts.size
  refine ⟨fun i j W => (∃ nw Lw, HearI N C B W Ds R r L i j nw Lw) ∧ Rdy N C W Ds gd gn G A cA ∧ SayI N C wa.heap.size W Ds L R N aS cS obS A2 c2 A3 c3 ∧ Fr (fun _ => False) w W, ?_, ?_, ?_, ?_, ?_, ?_, ?_⟩
  · exact ⟨⟨nows, L, HearI.start (hRI.fr0 hFi) R⟩, hRd.fr0 hFi, hS, hFa.trans hFi⟩
  · exact fun i j W h => h.2.1
  · rintro i j W u v ⟨-, -, h, -⟩ hu hv
    obtain ⟨gS, g2, k1, k2, k3, k4, k5, -⟩ := h.get hu hv
    exact ⟨gS, g2, k1, k2, k3, k4, k5⟩
  · rintro i W ⟨⟨nw, Lw, h⟩, h2⟩
    exact ⟨⟨nw, Lw, h.next hC⟩, h2⟩
  · rintro i j W W' ⟨⟨nw, Lw, h⟩, h2, h3, h4⟩ f
    exact ⟨⟨nw, Lw, h.fr0 f⟩, h2.fr0 f, h3.fr0 f, h4.trans f⟩
  · rintro i j W ⟨⟨nw, Lw, h⟩, h2, h3, h4⟩ hi hj
    have hk := (nearL_mem.1 (nth_mem (nearL N C i) j hj)).1
    have hAR := hS.all i hi (by omega)
    obtain ⟨t1, t2, t3⟩ := tell_facts hC hRI hi hAR j
    obtain ⟨gS, g2, -, -, -, -, -, o3, hO3⟩ := h3.get hi hj
    have hD := h.rts.dm _ hk
    have hM := h.takes hC hi hj (by omega) t1 t2
    have hc := dhear_any (N := (msgB R i j).length) (msgB R i j) (A3 i j) (c3 i j) (posL (nearL N C (nth (nearL N C i) j)) i : Nat) (r : Nat) W hD h.rts.size (by decide) hO3.rd (encD_bd false _) hO3.cap (by have := msgB_len R i j; omega) rfl
    rw [hM] at hc
    refine hc.mono ?_
    rintro e W' ⟨rfl, hD', hF'⟩
    have hlbd := hD.lbd
    have hlbr := hD.lbr
    have hhib := hD.hib
    have hl := hlo _ hk
    exact ⟨rfl, ⟨_, _, h.heard hC hi hj (by omega) t2 t3 hD' hF'⟩, h2.fr hk hF', h3.fr hF' (fun b hb => by omega), h4.trans' hF' (fun b hb e => by omega)⟩
  · rintro W ⟨⟨nw, Lw, h⟩, h2, -, h4⟩
    exact ⟨nw, Lw, h.done hC hF hRI hS.all, h2, h4⟩
end Go.Proofs.Ytgfbkebbnfcgkaa
end
