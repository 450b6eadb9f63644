import Derived.Test.YtakkljdeencfbaaCosts
namespace Go.Proofs.Ytakkljdeencfbaa
open Go.RowKit

/-- Where all that belongs to a net lies; 'role': what a block is for (0: not of the net). -/
structure AL where
  (cta wta hta : Option Addr) (cc wc hc : Nat) (ctb wtb htb : Option Nat)
  (fb fc : Nat)
  (cr wr hr ccr wcr hcr : Nat → Nat)
  (qa : Nat → Nat → Option Addr) (qc : Nat → Nat → Nat) (qb : Nat → Nat → Option Nat)
  (role : Nat → Nat)
structure ANet (H : Array Obj) (base sb n nw nh : Nat) (to : Int) (C hd : Nat → List Int) (f : List Int) (q : Nat → Nat → List Int) (L : AL) : Prop where
  sB : Blk H sb 75 [.int .i64 to, .slice L.cta n L.cc, .slice L.wta nw L.wc, .slice L.hta nh L.hc, .slice (some ⟨L.fb, 0, none⟩) n L.fc]
  cT : Own H 23 1 L.cta n L.cc ((List.range n).map fun i => .slice (some ⟨L.cr i, 0, none⟩) n (L.ccr i)) L.ctb
  cR : ∀ i, i < n → Own H 3 1 (some ⟨L.cr i, 0, none⟩) n (L.ccr i) (ivals .i64 (C i)) (some (L.cr i))
  wT : Own H 64 1 L.wta nw L.wc ((List.range nw).map fun i => .slice (some ⟨L.wr i, 0, none⟩) n (L.wcr i)) L.wtb
  wR : ∀ i, i < nw → Own H 23 1 (some ⟨L.wr i, 0, none⟩) n (L.wcr i) ((List.range n).map fun k => .slice (L.qa i k) (q i k).length (L.qc i k)) (some (L.wr i))
  qO : ∀ i k, i < nw → k < n → Own H 3 1 (L.qa i k) (q i k).length (L.qc i k) (ivals .i64 (q i k)) (L.qb i k)
  hT : Own H 23 1 L.hta nh L.hc ((List.range nh).map fun i => .slice (some ⟨L.hr i, 0, none⟩) n (L.hcr i)) L.htb
  hR : ∀ i, i < nh → Own H 3 1 (some ⟨L.hr i, 0, none⟩) n (L.hcr i) (ivals .i64 (hd i)) (some (L.hr i))
  fO : Own H 3 1 (some ⟨L.fb, 0, none⟩) n L.fc (ivals .i64 f) (some L.fb)
  q20 : ∀ i k, i < nw → k < n → (q i k).length ≤ 20
  lo : ∀ g, L.role g ≠ 0 → base ≤ g
  rs : L.role sb = 1
  rct : ∀ g, L.ctb = some g → L.role g = 2
  rwt : ∀ g, L.wtb = some g → L.role g = 3
  rht : ∀ g, L.htb = some g → L.role g = 4
  rf : L.role L.fb = 5
  rcr : ∀ i, i < n → L.role (L.cr i) = 6
  rwr : ∀ i, i < nw → L.role (L.wr i) = 20 + i
  rhr : ∀ i, i < nh → L.role (L.hr i) = 40 + i
  rq : ∀ i k g, i < nw → k < n → L.qb i k = some g → L.role g = 100 + 8 * i + k
  n8 : 1 ≤ n ∧ n ≤ 8
  nws : nw ≤ n
  nhs : nh ≤ n

namespace ANet
variable {H : Array Obj} {base sb n nw nh : Nat} {to : Int} {C hd : Nat → List Int} {f : List Int} {q : Nat → Nat → List Int} {L : AL} {w w' : World} {S : Nat → Prop}

theorem fr (h : ANet w.heap base sb n nw nh to C hd f q L) (F : Fr S w w') (hs : ∀ g, L.role g ≠ 0 → ¬ S g) : ANet w'.heap base sb n nw nh to C hd f q L where
  sB := h.sB.fr F (hs _ (by rw [h.rs]; decide))
  cT := h.cT.fr F (fun g hg => hs g (by rw [h.rct g hg]; decide))
  cR i hi := (h.cR i hi).fr F (fun g hg => by cases hg; exact hs _ (by rw [h.rcr i hi]; decide))
  wT := h.wT.fr F (fun g hg => hs g (by rw [h.rwt g hg]; decide))
  wR i hi := (h.wR i hi).fr F (fun g hg => by cases hg; exact hs _ (by rw [h.rwr i hi]; omega))
  qO i k hi hk := (h.qO i k hi hk).fr F (fun g hg => hs g (by rw [h.rq i k g hi hk hg]; omega))
  hT := h.hT.fr F (fun g hg => hs g (by rw [h.rht g hg]; decide))
  hR i hi := (h.hR i hi).fr F (fun g hg => by cases hg; exact hs _ (by rw [h.rhr i hi]; omega))
  fO := h.fO.fr F (fun g hg => by cases hg; exact hs _ (by rw [h.rf]; decide))
  q20 := h.q20
  lo := h.lo
  rs := h.rs
  rct := h.rct
  rwt := h.rwt
  rht := h.rht
  rf := h.rf
  rcr := h.rcr
  rwr := h.rwr
  rhr := h.rhr
  rq := h.rq
  n8 := h.n8
  nws := h.nws
  nhs := h.nhs
theorem fr0 (h : ANet w.heap base sb n nw nh to C hd f q L) (F : Fr (fun _ => False) w w') : ANet w'.heap base sb n nw nh to C hd f q L := h.fr F (fun _ _ h => h)

/-- One cell of the distances written. -/
theorem setF (h : ANet w.heap base sb n nw nh to C hd f q L) (i : Nat) (v : Int) : ANet (w.setCell ⟨L.fb, i, none⟩ (.int .i64 v)).heap base sb n nw nh to C hd (f.set i v) q L where
  sB := h.sB.other (p := ⟨L.fb, i, none⟩) (fun e => by have h1 := h.rs; rw [show sb = L.fb from e, h.rf] at h1; omega) _
  cT := h.cT.other (p := ⟨L.fb, i, none⟩) (fun e => by have h1 := h.rct _ e; rw [h.rf] at h1; omega) _
  cR j hj := (h.cR j hj).other (p := ⟨L.fb, i, none⟩) (fun e => by have h1 := h.rcr j hj; rw [show L.cr j = L.fb from Option.some.inj e, h.rf] at h1; omega) _
  wT := h.wT.other (p := ⟨L.fb, i, none⟩) (fun e => by have h1 := h.rwt _ e; rw [h.rf] at h1; omega) _
  wR j hj := (h.wR j hj).other (p := ⟨L.fb, i, none⟩) (fun e => by have h1 := h.rwr j hj; rw [show L.wr j = L.fb from Option.some.inj e, h.rf] at h1; omega) _
  qO j k hj hk := (h.qO j k hj hk).other (p := ⟨L.fb, i, none⟩) (fun e => by have h1 := h.rq j k _ hj hk e; rw [h.rf] at h1; omega) _
  hT := h.hT.other (p := ⟨L.fb, i, none⟩) (fun e => by have h1 := h.rht _ e; rw [h.rf] at h1; omega) _
  hR j hj := (h.hR j hj).other (p := ⟨L.fb, i, none⟩) (fun e => by have h1 := h.rhr j hj; rw [show L.hr j = L.fb from Option.some.inj e, h.rf] at h1; omega) _
  fO := by
    have h1 := h.fO.set rfl i (.int .i64 v)
    rwa [show (ivals .i64 f).set i (.int .i64 v) = ivals .i64 (f.set i v) by simp [ivals, List.map_set]] at h1
  q20 := h.q20
  lo := h.lo
  rs := h.rs
  rct := h.rct
  rwt := h.rwt
  rht := h.rht
  rf := h.rf
  rcr := h.rcr
  rwr := h.rwr
  rhr := h.rhr
  rq := h.rq
  n8 := h.n8
  nws := h.nws
  nhs := h.nhs

/-- A function, another value at one place. -/
def upd {α : Type} (g : Nat → α) (i : Nat) (x : α) : Nat → α := fun j => if j = i then x else g j
theorem upd_same {α : Type} (g : Nat → α) (i : Nat) (x : α) : upd g i x i = x := if_pos rfl
theorem upd_other {α : Type} (g : Nat → α) {i j : Nat} (x : α) (h : j ≠ i) : upd g i x j = g j := if_neg h
theorem upd_twice {α : Type} (g : Nat → α) (i : Nat) (x y : α) : upd (upd g i x) i y = upd g i y := by
  funext j
  unfold upd
  split <;> rfl

/-- One cell of what was heard written. -/
theorem setH (h : ANet w.heap base sb n nw nh to C hd f q L) (b : Nat) (hb : b < nh) (i : Nat) (v : Int) : ANet (w.setCell ⟨L.hr b, i, none⟩ (.int .i64 v)).heap base sb n nw nh to C (upd hd b ((hd b).set i v)) f q L where
  sB := h.sB.other (p := ⟨L.hr b, i, none⟩) (fun e => by have h1 := h.rs; rw [show sb = L.hr b from e, h.rhr b hb] at h1; omega) _
  cT := h.cT.other (p := ⟨L.hr b, i, none⟩) (fun e => by have h1 := h.rct _ e; rw [h.rhr b hb] at h1; omega) _
  cR j hj := (h.cR j hj).other (p := ⟨L.hr b, i, none⟩) (fun e => by have h1 := h.rcr j hj; rw [show L.cr j = L.hr b from Option.some.inj e, h.rhr b hb] at h1; omega) _
  wT := h.wT.other (p := ⟨L.hr b, i, none⟩) (fun e => by have h1 := h.rwt _ e; rw [h.rhr b hb] at h1; omega) _
  wR j hj := (h.wR j hj).other (p := ⟨L.hr b, i, none⟩) (fun e => by have h1 := h.rwr j hj; rw [show L.wr j = L.hr b from Option.some.inj e, h.rhr b hb] at h1; have := h.n8; have := h.nws; omega) _
  qO j k hj hk := (h.qO j k hj hk).other (p := ⟨L.hr b, i, none⟩) (fun e => by have h1 := h.rq j k _ hj hk e; rw [h.rhr b hb] at h1; have := h.n8; have := h.nhs; omega) _
  hT := h.hT.other (p := ⟨L.hr b, i, none⟩) (fun e => by have h1 := h.rht _ e; rw [h.rhr b hb] at h1; omega) _
  hR j hj := by
    by_cases hjb : j = b
    · subst hjb
      rw [upd_same]
      have h1 := (h.hR j hj).set rfl i (.int .i64 v)
      rwa [show (ivals .i64 (hd j)).set i (.int .i64 v) = ivals .i64 ((hd j).set i v) by simp [ivals, List.map_set]] at h1
    · rw [upd_other _ _ hjb]
      exact (h.hR j hj).other (p := ⟨L.hr b, i, none⟩) (fun e => by have h1 := h.rhr j hj; rw [show L.hr j = L.hr b from Option.some.inj e, h.rhr b hb] at h1; omega) _
  fO := h.fO.other (p := ⟨L.hr b, i, none⟩) (fun e => by have h1 := h.rf; rw [show L.fb = L.hr b from Option.some.inj e, h.rhr b hb] at h1; omega) _
  q20 := h.q20
  lo := h.lo
  rs := h.rs
  rct := h.rct
  rwt := h.rwt
  rht := h.rht
  rf := h.rf
  rcr := h.rcr
  rwr := h.rwr
  rhr := h.rhr
  rq := h.rq
  n8 := h.n8
  nws := h.nws
  nhs := h.nhs

def _root_.Go.Proofs.Ytakkljdeencfbaa.AL.putQ (L : AL) (a b : Nat) (a' : Option Addr) (c' : Nat) (ob' : Option Nat) : AL :=
  { L with qa := upd L.qa a (upd (L.qa a) b a'), qc := upd L.qc a (upd (L.qc a) b c'), qb := upd L.qb a (upd (L.qb a) b ob'), role := fun g => if ob' = some g then 100 + 8 * a + b else L.role g }
theorem upd2_same {α : Type} (g : Nat → Nat → α) (a b : Nat) (x : α) : upd g a (upd (g a) b x) a b = x := by simp [upd]
theorem upd2_other {α : Type} (g : Nat → Nat → α) {a b i k : Nat} (x : α) (h : ¬ (i = a ∧ k = b)) : upd g a (upd (g a) b x) i k = g i k := by
  unfold upd
  by_cases h1 : i = a
  · subst h1
    rw [if_pos rfl, if_neg (fun e => h ⟨rfl, e⟩)]
  · rw [if_neg h1]
/-- One way made anew: the same block, or a new one; the row of ways told it. -/
theorem setQ (h : ANet w.heap base sb n nw nh to C hd f q L) {a b : Nat} (ha : a < nw) (hb : b < n) (F : Fr (fun g => L.qb a b = some g) w w') {a' : Option Addr} {c' : Nat} {ob' : Option Nat} {xs : List Int}
    (hO : Own w'.heap 3 1 a' xs.length c' (ivals .i64 xs) ob') (hob : ob' = L.qb a b ∨ ∀ g, ob' = some g → w.heap.size ≤ g) (hx : xs.length ≤ 20) (hbase : base ≤ w.heap.size) :
    ANet (w'.setCell ⟨L.wr a, b, none⟩ (.slice a' xs.length c')).heap base sb n nw nh to C hd f (upd q a (upd (q a) b xs)) (L.putQ a b a' c' ob') := by
  have hn := h.n8
  have hnw := h.nws
  have hnh := h.nhs
  have hold : ∀ g, g < w.heap.size → (∀ i k, i < nw → k < n → (i = a ∧ k = b) → L.role g ≠ 100 + 8 * i + k) → (L.putQ a b a' c' ob').role g = L.role g := fun g hg hne => by
    show (if ob' = some g then _ else _) = _
    split
    · rename_i h1
      rcases hob with h2 | h2
      · exact absurd (h.rq a b g ha hb (h2 ▸ h1)) (hne a b ha hb ⟨rfl, rfl⟩)
      · have := h2 g h1; omega
    · rfl
  have hold' : ∀ g r, g < w.heap.size → L.role g = r → r < 100 → (L.putQ a b a' c' ob').role g = r := fun g r hg h1 h2 => by
    rw [hold g hg (fun i k hi hk _ => by omega), h1]
  have hS : ∀ g r, L.role g = r → r < 100 → ¬ (L.qb a b = some g) := fun g r h1 h2 h3 => by
    have := h.rq a b g ha hb h3
    omega
  have hwr := h.rwr a ha
  have hne : ∀ g r, L.role g = r → r ≠ 20 + a → g ≠ L.wr a := fun g r h1 h2 e => by rw [e, hwr] at h1; omega
  refine ⟨?_, ?_, ?_, ?_, ?_, ?_, ?_, ?_, ?_, ?_, ?_, ?_, ?_, ?_, ?_, ?_, ?_, ?_, ?_, ?_, h.n8, h.nws, h.nhs⟩
  · exact (h.sB.fr F (hS _ _ h.rs (by omega))).other (p := ⟨L.wr a, b, none⟩) (hne _ _ h.rs (by omega)) _
  · exact (h.cT.fr F (fun g hg => hS _ _ (h.rct g hg) (by omega))).other (p := ⟨L.wr a, b, none⟩) (fun e => hne _ _ (h.rct _ e) (by omega) rfl) _
  · intro i hi
    exact ((h.cR i hi).fr F (fun g hg => by cases hg; exact hS _ _ (h.rcr i hi) (by omega))).other (p := ⟨L.wr a, b, none⟩) (fun e => hne _ _ (h.rcr i hi) (by omega) (Option.some.inj e)) _
  · exact (h.wT.fr F (fun g hg => hS _ _ (h.rwt g hg) (by omega))).other (p := ⟨L.wr a, b, none⟩) (fun e => hne _ _ (h.rwt _ e) (by omega) rfl) _
  · intro i hi
    have h0 := (h.wR i hi).fr F (fun g hg => by cases hg; exact hS _ _ (h.rwr i hi) (by omega))
    by_cases hia : i = a
    · subst hia
      have h1 := h0.set rfl b (.slice a' xs.length c')
      have e : ((List.range n).map fun k => Value.slice (L.qa i k) (q i k).length (L.qc i k)).set b (.slice a' xs.length c') = (List.range n).map fun k => Value.slice ((L.putQ i b a' c' ob').qa i k) ((upd q i (upd (q i) b xs)) i k).length ((L.putQ i b a' c' ob').qc i k) := by
        apply List.ext_getElem
        · simp
        · intro k h1 h2
          rw [List.getElem_set]
          simp only [List.getElem_map, List.getElem_range, AL.putQ]
          by_cases hkb : b = k
          · subst hkb
            rw [if_pos rfl, upd2_same, upd2_same, upd2_same]
          · rw [if_neg hkb, upd2_other _ _ (fun e => hkb e.2.symm), upd2_other _ _ (fun e => hkb e.2.symm), upd2_other _ _ (fun e => hkb e.2.symm)]
      rw [e] at h1
      exact h1
    · have h1 := h0.other (p := ⟨L.wr a, b, none⟩) (fun e => hne _ _ (h.rwr i hi) (by omega) (Option.some.inj e)) (.slice a' xs.length c')
      have e : ((List.range n).map fun k => Value.slice (L.qa i k) (q i k).length (L.qc i k)) = (List.range n).map fun k => Value.slice ((L.putQ a b a' c' ob').qa i k) ((upd q a (upd (q a) b xs)) i k).length ((L.putQ a b a' c' ob').qc i k) := by
        refine List.map_congr_left fun k _ => ?_
        simp only [AL.putQ]
        rw [upd2_other _ _ (fun e => hia e.1), upd2_other _ _ (fun e => hia e.1), upd2_other _ _ (fun e => hia e.1)]
      rw [e] at h1
      exact h1
  · intro i k hi hk
    by_cases hik : i = a ∧ k = b
    · obtain ⟨rfl, rfl⟩ := hik
      simp only [AL.putQ]
      rw [upd2_same, upd2_same, upd2_same, upd2_same]
      refine hO.other (p := ⟨L.wr i, k, none⟩) (fun e => ?_) _
      rcases hob with h2 | h2
      · exact hne _ _ (h.rq i k _ hi hk (h2 ▸ e)) (by omega) rfl
      · have h3 := h2 _ e
        have h4 := (h.wR i hi).lt _ rfl
        simp only at h3
        omega
    · simp only [AL.putQ]
      rw [upd2_other _ _ hik, upd2_other _ _ hik, upd2_other _ _ hik, upd2_other _ _ hik]
      refine ((h.qO i k hi hk).fr F (fun g hg hS' => hik ?_)).other (p := ⟨L.wr a, b, none⟩) (fun e => hne _ _ (h.rq i k _ hi hk e) (by omega) rfl) _
      have h1 := h.rq i k g hi hk hg
      have h2 := h.rq a b g ha hb hS'
      omega
  · exact (h.hT.fr F (fun g hg => hS _ _ (h.rht g hg) (by omega))).other (p := ⟨L.wr a, b, none⟩) (fun e => hne _ _ (h.rht _ e) (by omega) rfl) _
  · intro i hi
    exact ((h.hR i hi).fr F (fun g hg => by cases hg; exact hS _ _ (h.rhr i hi) (by omega))).other (p := ⟨L.wr a, b, none⟩) (fun e => hne _ _ (h.rhr i hi) (by omega) (Option.some.inj e)) _
  · exact (h.fO.fr F (fun g hg => by cases hg; exact hS _ _ h.rf (by omega))).other (p := ⟨L.wr a, b, none⟩) (fun e => hne _ _ h.rf (by omega) (Option.some.inj e)) _
  · intro i k hi hk
    by_cases hik : i = a ∧ k = b
    · obtain ⟨rfl, rfl⟩ := hik
      rw [upd2_same]
      exact hx
    · rw [upd2_other _ _ hik]
      exact h.q20 i k hi hk
  · intro g hg
    change (if ob' = some g then _ else _) ≠ 0 at hg
    split at hg
    · rename_i h1
      rcases hob with h2 | h2
      · exact h.lo g (by rw [h.rq a b g ha hb (h2 ▸ h1)]; omega)
      · exact Nat.le_trans hbase (h2 g h1)
    · exact h.lo g hg
  · exact hold' _ _ h.sB.lt h.rs (by omega)
  · exact fun g hg => hold' _ _ (h.cT.lt g hg) (h.rct g hg) (by omega)
  · exact fun g hg => hold' _ _ (h.wT.lt g hg) (h.rwt g hg) (by omega)
  · exact fun g hg => hold' _ _ (h.hT.lt g hg) (h.rht g hg) (by omega)
  · exact hold' _ _ (h.fO.lt _ rfl) h.rf (by omega)
  · exact fun i hi => hold' _ _ ((h.cR i hi).lt _ rfl) (h.rcr i hi) (by omega)
  · exact fun i hi => hold' _ _ ((h.wR i hi).lt _ rfl) (h.rwr i hi) (by omega)
  · exact fun i hi => hold' _ _ ((h.hR i hi).lt _ rfl) (h.rhr i hi) (by omega)
  · intro i k g hi hk hg
    simp only [AL.putQ] at hg ⊢
    by_cases hik : i = a ∧ k = b
    · obtain ⟨rfl, rfl⟩ := hik
      rw [upd2_same] at hg
      rw [if_pos hg]
    · rw [upd2_other _ _ hik] at hg
      have h1 := h.rq i k g hi hk hg
      have h2 := (h.qO i k hi hk).lt g hg
      rw [if_neg (fun e => ?_), h1]
      rcases hob with h3 | h3
      · have h4 := h.rq a b g ha hb (h3 ▸ e)
        exact hik (by omega)
      · have := h3 g e
        omega
end ANet
end Go.Proofs.Ytakkljdeencfbaa
